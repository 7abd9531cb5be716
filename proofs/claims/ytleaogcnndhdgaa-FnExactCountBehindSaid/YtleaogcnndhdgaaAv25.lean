/- A part of the proof that a law of the seat holds: ZAv25. -/
import Derived.Test.YtleaogcnndhdgaaAv24
import Derived.Carry
namespace Go.Av
open Go Go.RowKit Go.ChangeShapes Go.WideShapes

section
variable {P : Program} {H : Type} {enc : TypeId × Value → H}

theorem trodAll_len {w : World} {base : Nat} {spare : Nat → Bool} {held : Bool} : ∀ {ts : List TypeId} {vs : List Value} {ds : List (DataW H)} {ps : List MemPlace}, DataW.TrodAll enc P w base spare held ts vs ds ps → ts.length = vs.length ∧ ts.length = ds.length
  | [], [], [], _, _ => ⟨rfl, rfl⟩
  | t :: ts, v :: vs, d :: ds, ps, h => by
    obtain ⟨p, q, _, h, _⟩ := h
    obtain ⟨h1, h2⟩ := trodAll_len h
    exact ⟨by simp [h1], by simp [h2]⟩
  | [], _ :: _, _, _, h => h.elim
  | [], [], _ :: _, _, h => h.elim
  | _ :: _, [], _, _, h => h.elim
  | _ :: _, _ :: _, [], _, h => h.elim

theorem trodAll_below (hl : laidOutB P = true) {W W' : World} (hb : Below W.heap.size W W') : ∀ {ts : List TypeId} {vs : List Value} {ds : List (DataW H)} {ps : List MemPlace}, (∀ t ∈ ts, P.readableRec t = true ∧ t < P.types.size) → (∀ x ∈ ps, x.block < W.heap.size) →
    DataW.TrodAll enc P W 0 (fun _ => true) true ts vs ds ps → DataW.TrodAll enc P W' 0 (fun b => decide (b < W.heap.size)) true ts vs ds ps
  | [], [], [], ps, _, _, h => h
  | t :: ts, v :: vs, d :: ds, ps, ht, hp, h => by
    obtain ⟨p, q, h1, h2, rfl⟩ := h
    obtain ⟨r1, r2⟩ := ht t (by simp)
    exact ⟨p, q, Below.trod hl r1 r2 h1 hb (fun x hx => hp x (by simp [hx])), trodAll_below hl hb (fun t ht' => ht t (by simp [ht'])) (fun x hx => hp x (by simp [hx])) h2, rfl⟩
  | [], _ :: _, _, _, _, _, h => h.elim
  | [], [], _ :: _, _, _, _, h => h.elim
  | _ :: _, [], _, _, _, _, h => h.elim
  | _ :: _, _ :: _, [], _, _, _, h => h.elim

/-- a law that answers true and leaves the old memory as it was -/
theorem law_post (hl : laidOutB P = true) {f : Func} {s : ChangeSpec} {tb : TypeId} (hvars : s.vars = []) (hs : ∀ ds : List (DataW H), ds.length = f.params.size → s.fn H ds = { results := [.lit (.bool true)], args := ds }) (hres : f.resultTypes = #[tb]) (htb : P.underlying tb = some .bool)
    (hr : ∀ t ∈ f.params.toList, P.readableRec t = true ∧ t < P.types.size) {W W' : World} {args : Array Value} {ds gs : List (DataW H)} {before : List MemPlace} (hW : DataW.Whole enc P f.params.toList s.vars false W args.toList ds gs before) (hb : Below W.heap.size W W') :
    s.post enc P f false true false false W args (.bool true) W' := by
  have hW' := hW
  obtain ⟨p, q, hA, hV, rfl, hfz, hnd⟩ := hW
  rw [hvars] at hV
  obtain ⟨rfl, rfl⟩ := trodVars_none hV
  have hlen := trodAll_len hA
  have hfn : s.fn H (ds ++ []) = { results := [.lit (.bool true)], args := ds } := by rw [List.append_nil]; exact hs ds (by rw [← hlen.2]; simp)
  refine ⟨ds, [], p ++ [], [], p, [], hW', ?_, ?_, ?_, hb.frame _, fun h => by cases h⟩
  · rw [hfn, hres]
    exact trodAll_cons_mk (shut_bool htb _) trodAll_mk0
  · rw [hfn]
    exact trodAll_below hl hb hr (fun x hx => hW'.lt x (by simpa using hx)) hA
  · rw [hvars, hfn]; rfl

/-- THE LAW's CALL out of its contract -/
theorem law_call {k : FuncId} {avs : List AV} (hc : DCall P k avs [] (aB true) []) {W : World} {args : Array Value} {L : Nat → Lay} (hs : satTup ⟨W, fun _ => False, fun _ => none, L⟩ avs args.toList) :
    Calls P k args W fun e W' => e = .returned (.bool true) ∧ Below W.heap.size W W' := by
  have hX : fX (fun _ => none) (lo []) = fun _ => False := by funext b; simp [fX, lo]
  have hin : CallIn W (fun _ => none) L [] := ⟨fun p o h => by simp [lo] at h, fun p q o o' b h => by simp [lo] at h, fun _ _ => rfl, fun _ _ h => by cases h⟩
  have := hc.call W (fun _ => none) L args.toList hin (by rw [hX]; exact hs)
  rw [show args.toList.toArray = args by simp] at this
  refine this.mono fun e W' ⟨y, av, fo', m', L', he, ⟨hav, _⟩, hout, hy⟩ => ?_
  subst hav
  simp only [aB, sat] at hy
  rw [hy.1] at he
  refine ⟨he, ?_⟩
  have hev := hout.ev
  rw [hX] at hev
  exact ⟨hev.os, hev.tape, hev.output, hev.size, fun b hb => hev.block b hb (fun h => h)⟩
end
end Go.Av
