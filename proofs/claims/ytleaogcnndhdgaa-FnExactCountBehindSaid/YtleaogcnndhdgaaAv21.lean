/- A part of the proof that a law of the seat holds: ZAv21. -/
import Derived.Test.YtleaogcnndhdgaaAv20
namespace Go.Av
open Go Go.RowKit

section
variable {ob : Nat → Option AObj} {lend : Bool} {σ : Nat → Option Nat}
theorem vw_any {a : AV} : vw ob lend σ a .any := by simp only [vw]
theorem vw_v {x : Value} : vw ob lend σ (.v x) (.v x) := by simp only [vw]
theorem vw_ptr {p nm s j : Nat} (h : σ p = some nm) : vw ob lend σ (.ptr nm s j) (.ptr p s j) := by simp only [vw]; exact ⟨nm, h, rfl⟩
theorem vw_sl {p nm off len : Nat} (h : σ p = some nm) : vw ob lend σ (.sl nm off len) (.sl p off len) := by simp only [vw]; exact .inl ⟨nm, h, rfl⟩
theorem vw_nil {p off : Nat} : vw ob lend σ (.ro [] true) (.sl p off 0) := by simp only [vw]; exact .inr ⟨trivial, trivial⟩
theorem vw_sv {p nm s off len : Nat} (h : σ p = some nm) : vw ob lend σ (.sv nm s off len) (.sv p s off len) := by simp only [vw]; exact ⟨nm, h, rfl⟩
theorem vw_ro0 {f f' : Bool} (hf : f = true → f' = true) : vw ob lend σ (.ro [] f') (.ro [] f) := by simp only [vw]; exact .inl ⟨trivial, f', rfl, hf⟩
theorem vw_ro {els els' : List (List AV)} {f f' : Bool} (hf : f = true → f' = true) (h : vwSegs ob true σ els els') : vw ob true σ (.ro els f') (.ro els' f) := by
  simp only [vw]; exact .inr ⟨trivial, .inl ⟨els, f', rfl, hf, h⟩⟩
/-- a row of its own is lent -/
theorem vw_lend {nm off len : Nat} {o : AObj} {els : List (List AV)} (hn : ∀ p, σ p ≠ some nm) (ho : ob nm = some o) (hk : o.k ≠ none) (hl : off + len ≤ o.segs.length) (h : vwSegs ob true σ ((o.segs.drop off).take len) els) : vw ob true σ (.sl nm off len) (.ro els false) := by
  simp only [vw]; exact .inr ⟨trivial, .inr (.inl ⟨trivial, nm, off, len, o, rfl, hn, ho, hk, hl, h⟩)⟩
theorem vw_rp {segs segs' : List (List AV)} {s j : Nat} (h : vwSegs ob true σ segs segs') : vw ob true σ (.rp segs s j) (.rp segs' s j) := by
  simp only [vw]; exact ⟨trivial, .inl ⟨segs, rfl, h⟩⟩
theorem vw_rp_lend {nm s j : Nat} {o : AObj} {segs' : List (List AV)} (hn : ∀ p, σ p ≠ some nm) (ho : ob nm = some o) (hs : s ≤ o.segs.length) (h : vwSegs ob true σ o.segs segs') : vw ob true σ (.ptr nm s j) (.rp segs' s j) := by
  simp only [vw]; exact ⟨trivial, .inr ⟨nm, o, rfl, hn, ho, hs, h⟩⟩
theorem vw_agg {s s' : List (List AV)} (h : vwSegs ob lend σ s s') : vw ob lend σ (.agg s) (.agg s') := by simp only [vw]; exact ⟨s, rfl, h⟩
theorem vw_tup {s s' : List AV} (h : vwList ob lend σ s s') : vw ob lend σ (.tup s) (.tup s') := by simp only [vw]; exact ⟨s, rfl, h⟩
theorem vw_clo {f : FuncId} {s s' : List AV} (h : vwList ob lend σ s s') : vw ob lend σ (.clo f s) (.clo f s') := by simp only [vw]; exact ⟨s, rfl, h⟩
theorem vl_nil : vwList ob lend σ [] [] := by simp only [vwList]
theorem vl_cons {a a' : AV} {l l' : List AV} (h : vw ob lend σ a a') (h2 : vwList ob lend σ l l') : vwList ob lend σ (a :: l) (a' :: l') := by simp only [vwList]; exact ⟨a, l, rfl, h, h2⟩
theorem vs_nil : vwSegs ob lend σ [] [] := by simp only [vwSegs]
theorem vs_cons {a a' : List AV} {l l' : List (List AV)} (h : vwList ob lend σ a a') (h2 : vwSegs ob lend σ l l') : vwSegs ob lend σ (a :: l) (a' :: l') := by simp only [vwSegs]; exact ⟨a, l, rfl, h, h2⟩
end

section
variable {P : Program} {B : Base}
theorem RW.weak {ops : Array Oper} {l : List Oper} {st st' : St} {Q : Exit → St → Prop} (σ : Nat → Option Nat) (hv : StV B.n0 st σ st') (h : RW P B ops l st' Q) : RW P B ops l st Q := fun m L a w hr => by
  obtain ⟨m', L', hr'⟩ := hr.view hv
  exact h m' L' a w hr'

/-- a pure operation that is not guarded -/
theorem RW.p {G : Sg P} {ops : Array Oper} {o : Oper} {l : List Oper} {st : St} {Q : Exit → St → Prop} (av : AV) (hg : o.guard = none) (hd : ∀ t, o.dst = some t → t < B.nt)
    (hv : pval G o.op st.env st.objs = some av) (h : RW P B ops l (st.next ⟨o.dst, av, []⟩ 0) Q) : RW P B ops (o :: l) st Q := RW.step hg hd (Stp.pure (G := G) _ hv) h
/-- a guarded operation that is wanted, one that is not -/
theorem RW.gt {ops : Array Oper} {o : Oper} {l : List Oper} {st : St} {Q : Exit → St → Prop} {d : Dlt} {k g : Nat} {want b : Bool} {t : Tmp} (hg : o.guard = some (g, want)) (hgd : (ops[g]?).bind (·.dst) = some t) (ht : Nat.blt t B.nt = true) (hb : st.env t = .v (.bool b)) (hw : b = want) (hd : ∀ t, o.dst = some t → t < B.nt)
    (hs : Stp P o st.nx k st.env st.objs d) (h : RW P B ops l (st.next d k) Q) : RW P B ops (o :: l) st Q := RW.guard hg hgd (Nat.le_of_ble_eq_true ht) hb hd (fun _ => ⟨hs, h⟩) (fun hn => absurd hw hn)
theorem P_pick_t {G : Sg P} {e : Nat → AV} {ob : Nat → Option AObj} {c a b : Operand} {t : Bool} {av : AV} (hc : evA e c = .v (.bool t)) (ht : t = true) (ha : evA e a = av) : pval G (.pick c a b) e ob = some av := by
  simp only [pval, hc, ht, if_true, ha]
theorem P_pick_f {G : Sg P} {e : Nat → AV} {ob : Nat → Option AObj} {c a b : Operand} {t : Bool} {av : AV} (hc : evA e c = .v (.bool t)) (ht : t = false) (hb : evA e b = av) : pval G (.pick c a b) e ob = some av := by
  simp only [pval, hc, ht, Bool.false_eq_true, if_false, hb]

/-- a call that takes nothing into its hands and gives one flat value back -/
theorem Stp.call0 {o : Oper} {e : Nat → AV} {ob : Nat → Option AObj} (n0 : Nat) {f : Operand} {vs : Array Operand} {ts : Array TypeId} (ho : o.op = .call ⟨.value f, vs, ts⟩) {k : FuncId} {caps : List AV} (hf : evA e f = .clo k caps)
    {args' : List AV} {av : AV} (hcall : DCall P k args' [] av []) (hargs : vwList ob true (fun _ => none) (vs.toList.map (evA e) ++ caps) args') (hav : vw (fun _ => none) false (fun _ => none) av av) :
    Stp P o n0 0 e ob ⟨o.dst, av, []⟩ := by
  have h1 : (fun p : Nat => ([] : List Nat)[p]?) = fun _ => none := by funext p; simp
  have h2 : posIn ([] ++ List.range' n0 0) = fun _ => none := by funext p; simp [posIn]
  intro B F st m L a w
  exact Stp.call (n0 := n0) (sel := []) (fo := []) (fo' := []) (us := []) (n := 0) ho hf hcall (by rw [h1]; exact hargs) (by simp only [foVw]) List.nodup_nil (by simp) (by simp only [backVw]) (by rw [h2]; exact hav)

/-- a call that takes nothing into its hands and gives rows of its own back -/
theorem Stp.callN {o : Oper} {e : Nat → AV} {ob : Nat → Option AObj} {n0 : Nat} {f : Operand} {vs : Array Operand} {ts : Array TypeId} (ho : o.op = .call ⟨.value f, vs, ts⟩) {k : FuncId} {caps : List AV} (hf : evA e f = .clo k caps)
    {args' : List AV} {av' av : AV} {fo' us : List (Option AObj)} {n : Nat} (hcall : DCall P k args' [] av' fo') (hargs : vwList ob true (fun _ => none) (vs.toList.map (evA e) ++ caps) args')
    (hn : fo'.length = n) (hback : backVw (posIn (List.range' n0 n)) fo' us) (hav : vw (fun _ => none) false (posIn (List.range' n0 n)) av' av) :
    Stp P o n0 n e ob ⟨o.dst, av, (List.range' n0 n).zip us⟩ := by
  have h1 : (fun p : Nat => ([] : List Nat)[p]?) = fun _ => none := by funext p; simp
  intro B F st m L a w
  exact Stp.call (n0 := n0) (sel := []) (fo := []) (us := us) (n := n) ho hf hcall (by rw [h1]; exact hargs) (by simp only [foVw]) List.nodup_nil (by simp [hn]) hback hav

theorem bk_nil {τ : Nat → Option Nat} : backVw τ [] [] := by simp only [backVw]
theorem bk_cons {τ : Nat → Option Nat} {o' o : AObj} {l us : List (Option AObj)} (ht : o.ty = o'.ty) (hk : o.k = o'.k) (hs : vwSegs (fun _ => none) false τ o'.segs o.segs) (h : backVw τ l us) : backVw τ (some o' :: l) (some o :: us) := by
  simp only [backVw]; exact ⟨⟨o, rfl, ht, hk, hs⟩, h⟩

theorem O_nil {lend : Bool} {st : St} {σ : Nat → Option Nat} {nx : Nat} : vwO lend st σ nx [] := by simp only [vwO]
theorem O_cons {lend : Bool} {st : St} {σ : Nat → Option Nat} {nx p : Nat} {o' : AObj} {l : List (Nat × AObj)} (nm : Nat) (o : AObj) (hσ : σ p = some nm) (ho : st.objs nm = some o) (ht : o'.ty = o.ty) (hk : o'.k = o.k) (hs : vwSegs st.objs lend σ o.segs o'.segs)
    (h : vwO lend st σ nx l) : vwO lend st σ nx ((p, o') :: l) := by simp only [vwO]; exact ⟨.inl ⟨nm, o, hσ, ho, ht, hk, hs⟩, h⟩
theorem O_virt {lend : Bool} {st : St} {σ : Nat → Option Nat} {nx p : Nat} {o' : AObj} {l : List (Nat × AObj)} (hσ : σ p = none) (hs : o'.segs = []) (hk : o'.k.isSome = true) (hp : Nat.blt p nx = true)
    (h : vwO lend st σ nx l) : vwO lend st σ nx ((p, o') :: l) := by
  simp only [vwO]; exact ⟨.inr ⟨hσ, hs, (fun h => by rw [h] at hk; cases hk), Nat.le_of_ble_eq_true hp⟩, h⟩
theorem E_nil {st : St} {σ : Nat → Option Nat} : vwE st σ [] := by simp only [vwE]
theorem E_cons {st : St} {σ : Nat → Option Nat} {n : Nat} {a a0 : AV} {l : List (Nat × AV)} (he : st.env n = a0) (hv : vw st.objs true σ a0 a) (h : vwE st σ l) : vwE st σ ((n, a) :: l) := by
  simp only [vwE]; exact ⟨by rw [he]; exact hv, h⟩

theorem upon_Q {o : Oper} {a : Act} {K K' : Act → World → Prop} {Q Q' : Exit → Act → World → Prop} (hK : ∀ a w, K a w → K' a w) (hp : ∀ c a w, Q (.panic c) a w → Q' (.panic c) a w) (hl : LetsOut Q → LetsOut Q') {r : Result Next}
    (h : o.upon P a K Q r) : o.upon P a K' Q' r := by
  cases r with
  | ok n w' =>
    cases n <;> simp only [Oper.upon] at h ⊢ <;>
      first
        | exact hK _ _ h
        | exact Calls.mono h (fun e w'' he => by cases e <;> first | exact hK _ _ he | exact hp _ _ _ he | exact hl he)
        | exact Rows.mono h (fun _ _ he => hK _ _ he)
        | exact h
  | halt x w' => cases x <;> simp only [Oper.upon] at h ⊢ <;> first | exact hp _ _ _ h | exact h

theorem RW.mid {ops : Array Oper} {l : List Oper} {st : St} {Q : Exit → St → Prop} (k : Nat) (J : St → Prop) (h1 : RW P B ops (l.take k) st (thenQ J Q)) (h2 : ∀ st', J st' → RW P B ops (l.drop k) st' Q) : RW P B ops l st Q := fun m L a w hr => by
  have hp : ∀ c (a : Act) (w : World), Qc B (thenQ J Q) (.panic c) a w → Qc B Q (.panic c) a w := fun c a w h => h
  have hl : LetsOut (Qc B (thenQ J Q)) → LetsOut (Qc B Q) := fun h => h
  have key : ∀ (l1 l2 : List Oper), (∀ st', J st' → RW P B ops l2 st' Q) → ∀ (a : Act) (w : World), wpList P ops (Qc B (thenQ J Q)) l1 a w → wpList P ops (Qc B Q) (l1 ++ l2) a w := by
    intro l1 l2 h2
    induction l1 with
    | nil => intro a w ⟨st', m', L', hj, hr'⟩; exact h2 st' hj m' L' a w hr'
    | cons o l1 ih =>
      intro a w h
      simp only [List.cons_append]
      unfold wpList at h ⊢
      split at h
      case isTrue hw =>
        rw [if_pos hw]
        rcases h with h | ⟨h, hq⟩
        · exact .inl (upon_Q (fun a w h => ih a w h) hp hl h)
        · exact .inr ⟨h, hl hq⟩
      case isFalse hw => rw [if_neg hw]; exact ih _ _ h
  have := key (l.take k) (l.drop k) h2 a w (h1 m L a w hr)
  rwa [List.take_append_drop] at this

/-- nothing is given back -/
theorem RetV.flat {st : St} {av : AV} (hav : vw st.objs false (fun _ => none) av av) : RetV 0 st av (fun a o => a = av ∧ o = []) av [] (fun _ => none) :=
  ⟨⟨rfl, rfl⟩, hav, fun p o' h => by simp [lo'] at h, fun p q nm h => by simp at h, fun p nm h => by simp at h, fun p h => by omega, Nat.le_refl _⟩

/-- one row of its own is given back -/
theorem lo_one {o o' : AObj} {p : Nat} (h : lo' [some o] p = some o') : p = 0 ∧ o' = o := by
  cases p with
  | zero => simp [lo'] at h; exact ⟨rfl, h.symm⟩
  | succ p => simp [lo'] at h
end
end Go.Av
