/- How a typed evaluator tells the code of a function: definitions and soundness, part 1. -/
import Derived.Test.YtifcbamdncpahaaDoorZ0
import Derived.ChangeKeysEq
import Derived.Laws.StructEq
set_option linter.unusedVariables false
set_option linter.unusedSimpArgs false
namespace Go.Tv
open Go Go.RowKit
structure Ctx where
  w : World
  X : Nat → Prop
  Y : Nat → Prop
  m : Nat → Option Nat
  L : Nat → Option (Nat × Nat)
def okB (c : Ctx) (s : Bool) (b : Nat) : Prop := b < c.w.heap.size ∧ ¬ c.X b ∧ (s = true → ¬ c.Y b)
def Mem (w : World) (b o : Nat) (vs : List Value) : Prop := ∀ q v, vs[q]? = some v → w.cell? ⟨b, o + q, none⟩ = some v
def rowsS {α : Type} (f : α → List Value → Prop) : List α → List Value → Prop
  | [], vs => vs = []
  | x :: l, vs => ∃ v r, vs = v ++ r ∧ f x v ∧ rowsS f l r
def slM (c : Ctx) (s : Bool) {α : Type} (f : α → List Value → Prop) (l : List α) (a : Option Addr) : Prop :=
  l = [] ∨ ∃ b off us, a = some ⟨b, off, none⟩ ∧ okB c s b ∧ rowsS f l us ∧ Mem c.w b off us
def VS (c : Ctx) (s : Bool) : (t : Ty) → t.den → List Value → Prop
  | .int k, x, vs => vs = [.int k x]
  | .bool, x, vs => vs = [.bool x]
  | .str, x, vs => vs = [.string x]
  | .arr n e, x, vs => rowsS (VS c s e) (Arr.els n x) vs
  | .pair a b, x, vs => ∃ v r, vs = v ++ r ∧ VS c s a (fstD x) v ∧ VS c s b (sndD x) r
  | .sl e, x, vs => ∃ a cap, vs = [.slice a (List.length x) cap] ∧ List.length x ≤ cap ∧ List.length x ≤ maxLen ∧ slM c s (VS c s e) x a
section
variable {α : Type} {f : α → List Value → Prop}
theorem rowsS_len {k : Nat} (hk : ∀ x v, f x v → v.length = k) : ∀ {l : List α} {vs : List Value}, rowsS f l vs → vs.length = l.length * k
  | [], vs, h => by simp only [rowsS] at h; subst h; simp
  | x :: l, vs, h => by
    simp only [rowsS] at h
    obtain ⟨v, r, rfl, h1, h2⟩ := h
    rw [List.length_append, hk x v h1, rowsS_len hk h2, List.length_cons, Nat.succ_mul, Nat.add_comm]
theorem rowsS_app : ∀ {l r : List α} {vs : List Value}, rowsS f (l ++ r) vs ↔ ∃ v u, vs = v ++ u ∧ rowsS f l v ∧ rowsS f r u
  | [], r, vs => by
    constructor
    · intro h; exact ⟨[], vs, rfl, rfl, h⟩
    · rintro ⟨v, u, rfl, h1, h2⟩; simp only [rowsS] at h1; subst h1; exact h2
  | x :: l, r, vs => by
    simp only [List.cons_append, rowsS, rowsS_app]
    constructor
    · rintro ⟨v, _, rfl, h1, v', u, rfl, h2, h3⟩
      exact ⟨v ++ v', u, by simp, ⟨v, v', rfl, h1, h2⟩, h3⟩
    · rintro ⟨_, u, rfl, ⟨v, r', rfl, h1, h2⟩, h3⟩
      exact ⟨v, r' ++ u, by simp, h1, r', u, rfl, h2, h3⟩
theorem rowsS_mono {g : α → List Value → Prop} : ∀ {l : List α} {vs : List Value}, (∀ x v, x ∈ l → f x v → g x v) → rowsS f l vs → rowsS g l vs
  | [], vs, _, h => by simp only [rowsS] at h ⊢; exact h
  | x :: l, vs, hg, h => by
    simp only [rowsS] at h ⊢
    obtain ⟨v, r, rfl, h1, h2⟩ := h
    exact ⟨v, r, rfl, hg x v (by simp) h1, rowsS_mono (fun y u hy => hg y u (by simp [hy])) h2⟩
theorem rowsS_sub {k : Nat} (hk : ∀ x v, f x v → v.length = k) {l : List α} {vs : List Value} (h : rowsS f l vs) (i n : Nat) (hi : i ≤ l.length) :
    rowsS f ((l.drop i).take n) ((vs.drop (i * k)).take (((l.drop i).take n).length * k)) := by
  have e1 : l = l.take i ++ ((l.drop i).take n ++ (l.drop i).drop n) := by rw [List.take_append_drop, List.take_append_drop]
  rw [e1, rowsS_app] at h
  obtain ⟨v, u, rfl, h1, h2⟩ := h
  rw [rowsS_app] at h2
  obtain ⟨v2, u2, rfl, h3, h4⟩ := h2
  have l1 := rowsS_len hk h1
  have l3 := rowsS_len hk h3
  rw [List.length_take, Nat.min_eq_left hi] at l1
  rw [← l1, List.drop_left, ← l3, List.take_left]
  exact h3
theorem rowsS_get {k : Nat} (hk : ∀ x v, f x v → v.length = k) {l : List α} {vs : List Value} (h : rowsS f l vs) {i : Nat} {x : α} (hi : l[i]? = some x) :
    f x ((vs.drop (i * k)).take k) ∧ i * k + k ≤ vs.length := by
  have hlt := (List.getElem?_eq_some_iff.1 hi).1
  have hs := rowsS_sub hk h i 1 (Nat.le_of_lt hlt)
  have e : (l.drop i).take 1 = [x] := by
    rw [List.take_one, List.head?_drop, hi]; rfl
  rw [e] at hs
  simp only [rowsS, List.length_singleton, Nat.one_mul] at hs
  obtain ⟨v, r, he, h1, rfl⟩ := hs
  rw [List.append_nil] at he
  refine ⟨by rw [he]; exact h1, ?_⟩
  have := rowsS_len hk h
  rw [this, ← Nat.succ_mul]; exact Nat.mul_le_mul_right k hlt
theorem rowsS_set {k : Nat} (hk : ∀ x v, f x v → v.length = k) {l : List α} {vs u : List Value} (h : rowsS f l vs) {i : Nat} {y : α} (hi : i < l.length) (hy : f y u) :
    rowsS f (l.set i y) (vs.take (i * k) ++ u ++ vs.drop (i * k + u.length)) := by
  have e1 : l = l.take i ++ (l[i] :: l.drop (i + 1)) := by rw [← List.drop_eq_getElem_cons hi, List.take_append_drop]
  have e2 : l.set i y = l.take i ++ (y :: l.drop (i + 1)) := by rw [List.set_eq_take_append_cons_drop, if_pos hi]
  rw [e1, rowsS_app] at h
  rw [e2, rowsS_app]
  obtain ⟨v, r, rfl, h1, h2⟩ := h
  simp only [rowsS] at h2
  obtain ⟨v1, r1, rfl, h3, h4⟩ := h2
  have l1 := rowsS_len hk h1
  rw [List.length_take, Nat.min_eq_left (Nat.le_of_lt hi)] at l1
  have hu : u.length = v1.length := by rw [hk _ _ hy, hk _ _ h3]
  refine ⟨v, u ++ r1, ?_, h1, ?_⟩
  · rw [← l1, List.take_left, hu, ← List.drop_drop, List.drop_left, List.drop_left, List.append_assoc]
  · simp only [rowsS]; exact ⟨u, r1, rfl, hy, h4⟩
theorem rowsS_rep {x : α} {v : List Value} (h : f x v) : ∀ n, rowsS f (List.replicate n x) (List.replicate n v).flatten
  | 0 => by simp [rowsS]
  | n + 1 => by simp only [List.replicate_succ, rowsS, List.flatten_cons]; exact ⟨v, _, rfl, h, rowsS_rep h n⟩
theorem rowsS_one {x : α} {v : List Value} (h : f x v) : rowsS f [x] v := by simp only [rowsS]; exact ⟨v, [], by simp, h, rfl⟩
theorem rowsS_all {p : Value → Prop} (hp : ∀ x v, f x v → ∀ y ∈ v, p y) : ∀ {l : List α} {vs : List Value}, rowsS f l vs → ∀ y ∈ vs, p y
  | [], vs, h => by simp only [rowsS] at h; subst h; simp
  | x :: l, vs, h => by
    simp only [rowsS] at h
    obtain ⟨v, r, rfl, h1, h2⟩ := h
    intro y hy
    rcases List.mem_append.1 hy with hy | hy
    · exact hp x v h1 y hy
    · exact rowsS_all hp h2 y hy
end
theorem Arr.els_length {α : Type} : ∀ {n : Nat} (a : Arr n α), (Arr.els n a).length = n
  | 2, _ => rfl | 3, _ => rfl | 4, _ => rfl | 5, _ => rfl | 6, _ => rfl
  | 0, a => VL.h a | 1, a => VL.h a | _ + 7, a => VL.h a
theorem Arr.get_els {α : Type} (d : α) : ∀ {n : Nat} (a : Arr n α) {i : Nat}, i < n → (Arr.els n a)[i]? = some (Arr.get d n a i)
  | 2, _, 0, _ => rfl | 2, _, 1, _ => rfl
  | 3, _, 0, _ => rfl | 3, _, 1, _ => rfl | 3, _, 2, _ => rfl
  | 4, _, 0, _ => rfl | 4, _, 1, _ => rfl | 4, _, 2, _ => rfl | 4, _, 3, _ => rfl
  | 5, _, 0, _ => rfl | 5, _, 1, _ => rfl | 5, _, 2, _ => rfl | 5, _, 3, _ => rfl | 5, _, 4, _ => rfl
  | 6, _, 0, _ => rfl | 6, _, 1, _ => rfl | 6, _, 2, _ => rfl | 6, _, 3, _ => rfl | 6, _, 4, _ => rfl | 6, _, 5, _ => rfl
  | 1, a, i, h => by
    have hl : i < (VL.l a).length := by rw [VL.h a]; exact h
    show (VL.l a)[i]? = some ((VL.l a).getD i d)
    rw [List.getD_eq_getElem?_getD, List.getElem?_eq_getElem hl]; rfl
  | n + 7, a, i, h => by
    have hl : i < (VL.l a).length := by rw [VL.h a]; exact h
    show (VL.l a)[i]? = some ((VL.l a).getD i d)
    rw [List.getD_eq_getElem?_getD, List.getElem?_eq_getElem hl]; rfl
theorem Arr.set_els {α : Type} : ∀ {n : Nat} (a : Arr n α) {i : Nat} (y : α), i < n → Arr.els n (Arr.set n a i y) = (Arr.els n a).set i y
  | 2, _, 0, _, _ => rfl | 2, _, 1, _, _ => rfl
  | 3, _, 0, _, _ => rfl | 3, _, 1, _, _ => rfl | 3, _, 2, _, _ => rfl
  | 4, _, 0, _, _ => rfl | 4, _, 1, _, _ => rfl | 4, _, 2, _, _ => rfl | 4, _, 3, _, _ => rfl
  | 5, _, 0, _, _ => rfl | 5, _, 1, _, _ => rfl | 5, _, 2, _, _ => rfl | 5, _, 3, _, _ => rfl | 5, _, 4, _, _ => rfl
  | 6, _, 0, _, _ => rfl | 6, _, 1, _, _ => rfl | 6, _, 2, _, _ => rfl | 6, _, 3, _, _ => rfl | 6, _, 4, _, _ => rfl | 6, _, 5, _, _ => rfl
  | 1, _, _, _, _ => rfl
  | _ + 7, _, _, _, _ => rfl
theorem Arr.of_els {α : Type} (d : α) : ∀ {n : Nat} (l : List α), n ≤ l.length → Arr.els n (Arr.of d n l) = l.take n
  | 2, a :: b :: _, _ => rfl | 3, a :: b :: c :: _, _ => rfl | 4, a :: b :: c :: e :: _, _ => rfl
  | 5, a :: b :: c :: e :: f :: _, _ => rfl | 6, a :: b :: c :: e :: f :: g :: _, _ => rfl
  | 2, [], h | 3, [], h | 4, [], h | 5, [], h | 6, [], h => by simp at h
  | 2, [_], h | 3, [_], h | 4, [_], h | 5, [_], h | 6, [_], h => by simp at h
  | 3, [_, _], h | 4, [_, _], h | 5, [_, _], h | 6, [_, _], h => by simp at h
  | 4, [_, _, _], h | 5, [_, _, _], h | 6, [_, _, _], h => by simp at h
  | 5, [_, _, _, _], h | 6, [_, _, _, _], h => by simp at h
  | 6, [_, _, _, _, _], h => by simp at h
  | 0, l, _ => by show (l ++ List.replicate 0 d).take 0 = l.take 0; simp
  | 1, l, h => by show (l ++ _).take 1 = _; rw [List.take_append_of_le_length h]
  | n + 7, l, h => by show (l ++ _).take (n + 7) = _; rw [List.take_append_of_le_length h]
theorem Arr.rep_els {α : Type} (d : α) : ∀ n : Nat, Arr.els n (Arr.rep d n) = List.replicate n d
  | 2 => rfl | 3 => rfl | 4 => rfl | 5 => rfl | 6 => rfl | 0 => rfl | 1 => rfl | _ + 7 => rfl
theorem VS_len {c : Ctx} {s : Bool} : ∀ {t : Ty} {x : t.den} {vs : List Value}, VS c s t x vs → vs.length = t.size
  | .int _, _, vs, h => by simp only [VS] at h; subst h; rfl
  | .bool, _, vs, h => by simp only [VS] at h; subst h; rfl
  | .str, _, vs, h => by simp only [VS] at h; subst h; rfl
  | .arr n e, x, vs, h => by
    simp only [VS] at h
    exact (rowsS_len (k := e.size) (fun _ _ => VS_len) h).trans (congrArg (· * e.size) (Arr.els_length (n := n) (α := e.den) x))
  | .pair a b, x, vs, h => by
    simp only [VS] at h
    obtain ⟨v, r, rfl, h1, h2⟩ := h
    rw [List.length_append, VS_len h1, VS_len h2]; rfl
  | .sl e, x, vs, h => by
    simp only [VS] at h
    obtain ⟨a, cap, rfl, _⟩ := h; rfl
theorem VS_one {c : Ctx} {s : Bool} : ∀ {t : Ty} {x : t.den} {vs : List Value}, VS c s t x vs → ∀ v ∈ vs, v.oneCell' = true
  | .int _, _, vs, h => by simp only [VS] at h; subst h; simp; rfl
  | .bool, _, vs, h => by simp only [VS] at h; subst h; simp; rfl
  | .str, _, vs, h => by simp only [VS] at h; subst h; simp; rfl
  | .arr n e, x, vs, h => by
    simp only [VS] at h
    exact rowsS_all (fun _ _ h => VS_one h) h
  | .pair a b, x, vs, h => by
    simp only [VS] at h
    obtain ⟨v, r, rfl, h1, h2⟩ := h
    intro y hy
    rcases List.mem_append.1 hy with hy | hy
    · exact VS_one h1 y hy
    · exact VS_one h2 y hy
  | .sl e, x, vs, h => by
    simp only [VS] at h
    obtain ⟨a, cap, rfl, _⟩ := h; simp; rfl
structure Le (c : Ctx) (s : Bool) (c' : Ctx) (s' : Bool) : Prop where
  ok : ∀ b, okB c s b → okB c' s' b
  mem : ∀ b o us, okB c s b → Mem c.w b o us → Mem c'.w b o us
theorem slM_le {α : Type} {f g : α → List Value → Prop} {c c' : Ctx} {s s' : Bool} (H : Le c s c' s') {l : List α} {a : Option Addr} (hf : ∀ x v, x ∈ l → f x v → g x v) (h : slM c s f l a) : slM c' s' g l a := by
  rcases h with h | ⟨b, off, us, h1, h2, h3, h4⟩
  · exact .inl h
  · exact .inr ⟨b, off, us, h1, H.ok b h2, rowsS_mono hf h3, H.mem b off us h2 h4⟩
theorem VS_le {c c' : Ctx} {s s' : Bool} (H : Le c s c' s') : ∀ {t : Ty} {x : t.den} {vs : List Value}, VS c s t x vs → VS c' s' t x vs
  | .int _, _, vs, h => by simp only [VS] at h ⊢; exact h
  | .bool, _, vs, h => by simp only [VS] at h ⊢; exact h
  | .str, _, vs, h => by simp only [VS] at h ⊢; exact h
  | .arr n e, x, vs, h => by
    simp only [VS] at h ⊢
    exact rowsS_mono (fun _ _ _ h => VS_le H h) h
  | .pair a b, x, vs, h => by
    simp only [VS] at h ⊢
    obtain ⟨v, r, rfl, h1, h2⟩ := h
    exact ⟨v, r, rfl, VS_le H h1, VS_le H h2⟩
  | .sl e, x, vs, h => by
    simp only [VS] at h ⊢
    obtain ⟨a, cap, rfl, h1, h2, h3⟩ := h
    exact ⟨a, cap, rfl, h1, h2, slM_le H (fun _ _ _ h => VS_le H h) h3⟩
theorem VS_flat {c c' : Ctx} {s s' : Bool} : ∀ {t : Ty} {x : t.den} {vs : List Value}, t.flat = true → VS c s t x vs → VS c' s' t x vs
  | .int _, _, vs, _, h => by simp only [VS] at h ⊢; exact h
  | .bool, _, vs, _, h => by simp only [VS] at h ⊢; exact h
  | .str, _, vs, _, h => by simp only [VS] at h ⊢; exact h
  | .arr n e, x, vs, hf, h => by
    simp only [VS] at h ⊢
    exact rowsS_mono (fun _ _ _ h => VS_flat (t := e) hf h) h
  | .pair a b, x, vs, hf, h => by
    simp only [VS] at h ⊢
    simp only [Ty.flat, Bool.and_eq_true] at hf
    obtain ⟨v, r, rfl, h1, h2⟩ := h
    exact ⟨v, r, rfl, VS_flat hf.1 h1, VS_flat hf.2 h2⟩
  | .sl e, x, vs, hf, h => by simp [Ty.flat] at hf
theorem Le.weak {c : Ctx} {s s' : Bool} (h : s' = true → s = true) : Le c s c s' := ⟨fun _ hb => ⟨hb.1, hb.2.1, fun hs => hb.2.2 (h hs)⟩, fun _ _ _ _ h => h⟩
theorem VS_weak {c : Ctx} {s s' : Bool} {t : Ty} {x : t.den} {vs : List Value} (hs : s' = true → s = true) (h : VS c s t x vs) : VS c s' t x vs := VS_le (.weak hs) h
theorem VS_or {c : Ctx} {s : Bool} {t : Ty} {x : t.den} {vs : List Value} (h : VS c s t x vs) : VS c (s || t.flat) t x vs := by
  cases hf : t.flat with
  | true => exact VS_flat hf h
  | false => rw [Bool.or_false]; exact h
theorem VS_of_or {c : Ctx} {s : Bool} {t : Ty} {x : t.den} {vs : List Value} (h : VS c (s || t.flat) t x vs) : VS c s t x vs := by
  cases hf : t.flat with
  | true => exact VS_flat hf h
  | false => rw [hf, Bool.or_false] at h; exact h
def Ty.zcells : Ty → List Value
  | .int k => [.int k 0]
  | .bool => [.bool false]
  | .str => [.string ⟨#[]⟩]
  | .arr n e => (List.replicate n e.zcells).flatten
  | .pair a b => a.zcells ++ b.zcells
  | .sl _ => [.slice none 0 0]
theorem VS_zero (c : Ctx) (s : Bool) : ∀ t : Ty, VS c s t t.zero t.zcells
  | .int _ => by simp only [VS]; rfl
  | .bool => by simp only [VS]; rfl
  | .str => by simp only [VS]; rfl
  | .arr n e => by
    simp only [VS]
    show rowsS _ (Arr.els n (Arr.rep e.zero n)) _
    rw [Arr.rep_els]; exact rowsS_rep (VS_zero c s e) n
  | .pair a b => by simp only [VS]; exact ⟨_, _, rfl, VS_zero c s a, VS_zero c s b⟩
  | .sl e => by simp only [VS]; exact ⟨none, 0, rfl, Nat.le_refl _, Nat.zero_le _, .inl rfl⟩
theorem zcells_len (t : Ty) : t.zcells.length = t.size := VS_len (VS_zero ⟨default, fun _ => False, fun _ => False, fun _ => none, fun _ => none⟩ true t)
end Go.Tv
namespace Go.Tv
open Go Go.RowKit
def offS : List Step → Nat
  | [] => 0
  | .fst :: p => offS p
  | .snd k :: p => k + offS p
  | .idx i k _ :: p => i * k + offS p
def PathOK (len : Nat) : List Step → Prop
  | [] => True
  | .fst :: p => PathOK len p
  | .snd _ :: p => PathOK len p
  | .idx i _ b :: p => (i < match b with | some n => n | none => len) ∧ PathOK len p
theorem offS_app : ∀ (p q : List Step), offS (p ++ q) = offS p + offS q
  | [], q => by simp [offS]
  | .fst :: p, q => by simp only [List.cons_append, offS, offS_app p q]
  | .snd _ :: p, q => by simp only [List.cons_append, offS, offS_app p q, Nat.add_assoc]
  | .idx .. :: p, q => by simp only [List.cons_append, offS, offS_app p q, Nat.add_assoc]
theorem PathOK_app {len : Nat} : ∀ {p q : List Step}, PathOK len (p ++ q) ↔ PathOK len p ∧ PathOK len q
  | [], q => by simp [PathOK]
  | .fst :: p, q => by simp only [List.cons_append, PathOK, PathOK_app]
  | .snd _ :: p, q => by simp only [List.cons_append, PathOK, PathOK_app]
  | .idx .. :: p, q => by simp only [List.cons_append, PathOK, PathOK_app, and_assoc]
def ownV (c : Ctx) (nm off len : Nat) (y : Value) : Prop :=
  (len = 0 ∧ ∃ a, y = .slice a 0 0) ∨ (∃ b k ln cap cur ty fr, c.m nm = some b ∧ c.L nm = some (k, ln) ∧ y = .slice (some ⟨b, off * k, none⟩) len cap ∧ len ≤ cap ∧
    c.w.heap[b]? = some (.cells cur ty fr) ∧ cur.size = (off + cap) * k ∧ off + cap ≤ maxLen ∧ off + len ≤ ln)
def satC (c : Ctx) : TV → List Value → Prop
  | .any, _ => True
  | .und, vs => vs = [undef]
  | .nil, vs => vs = [.slice none 0 0]
  | .val s t x, vs => VS c s t x vs
  | .fl s e l, vs => ∃ a, vs = [.slice a (List.length l) (List.length l)] ∧ List.length l ≤ maxLen ∧ slM c s (VS c s e) l a
  | .pr a b, vs => ∃ v r, vs = v ++ r ∧ v.length = sizeT a ∧ r.length = sizeT b ∧ satC c a v ∧ satC c b r
  | .ptr nm p, vs => ∃ b k ln, c.m nm = some b ∧ vs = [.pointer (some ⟨b, offS p, none⟩)] ∧ c.L nm = some (k, ln) ∧ PathOK ln p
  | .rptr s t x, vs => ∃ b off us, vs = [.pointer (some ⟨b, off, none⟩)] ∧ okB c s b ∧ VS c s t x us ∧ Mem c.w b off us
  | .own nm, vs => ∃ y k ln, vs = [y] ∧ c.L nm = some (k, ln) ∧ ownV c nm 0 ln y
  | .ownp nm off len, vs => ∃ y, vs = [y] ∧ ownV c nm off len y
  | .sv nm p _ n, vs => ∃ b k ln cap, c.m nm = some b ∧ vs = [.slice (some ⟨b, offS p, none⟩) n cap] ∧ n ≤ cap ∧ n ≤ maxLen ∧ c.L nm = some (k, ln) ∧ PathOK ln p
  | .tnil, vs => vs = []
  | .tcons a b, vs => ∃ v r, vs = v :: r ∧ v.oneCell' = true ∧ satC c a [v] ∧ satC c b r
  | .clo f caps, vs => ∃ us, vs = [.func (.func f) #[] us.toArray] ∧ satC c caps us
def satV (c : Ctx) (v : TV) (y : Value) : Prop := match aggT v with
  | true => ∃ vs, y = .agg vs.toArray ∧ satC c v vs
  | false => satC c v [y]
def satT (c : Ctx) : TV → List Value → Prop
  | .tnil, vs => vs = []
  | .tcons a b, vs => ∃ v r, vs = v :: r ∧ satV c a v ∧ satT c b r
  | _, _ => False
def sat (c : Ctx) (v : TV) (y : Value) : Prop := match isTup v with
  | true => ∃ vs, y = .tuple vs.toArray ∧ satT c v vs
  | false => satV c v y
theorem sat_any {c : Ctx} {y : Value} : sat c .any y := by simp only [sat, isTup, satV, aggT, satC]
theorem sat_und {c : Ctx} {y : Value} : sat c .und y ↔ y = undef := by simp only [sat, isTup, satV, aggT, satC, List.cons.injEq, and_true]
theorem satC_one {c : Ctx} : ∀ {v : TV} {vs : List Value}, satC c v vs → vs.length = sizeT v → ∀ y ∈ vs, y.oneCell' = true
  | .any, vs, _, hl => by
    have : vs = [] := List.eq_nil_of_length_eq_zero hl
    subst this; simp
  | .und, vs, h, hl => by simp only [satC] at h; subst h; simp [sizeT] at hl
  | .nil, vs, h, _ => by simp only [satC] at h; subst h; simp; rfl
  | .val s t x, vs, h, _ => by simp only [satC] at h; exact VS_one h
  | .fl s e l, vs, h, _ => by simp only [satC] at h; obtain ⟨a, rfl, _⟩ := h; simp; rfl
  | .pr a b, vs, h, _ => by
    simp only [satC] at h
    obtain ⟨v, r, rfl, h1, h2, h3, h4⟩ := h
    intro y hy
    rcases List.mem_append.1 hy with hy | hy
    · exact satC_one h3 h1 y hy
    · exact satC_one h4 h2 y hy
  | .ptr nm p, vs, h, _ => by simp only [satC] at h; obtain ⟨b, k, ln, _, rfl, _⟩ := h; simp; rfl
  | .rptr s t x, vs, h, _ => by simp only [satC] at h; obtain ⟨b, off, us, rfl, _⟩ := h; simp; rfl
  | .own nm, vs, h, _ => by
    simp only [satC] at h
    obtain ⟨y, k, ln, rfl, _, ⟨_, a, rfl⟩ | ⟨b, k, ln, cap, cur, ty, fr, _, _, rfl, _⟩⟩ := h <;> (simp; rfl)
  | .ownp nm off len, vs, h, _ => by
    simp only [satC] at h
    obtain ⟨y, rfl, ⟨_, a, rfl⟩ | ⟨b, k, ln, cap, cur, ty, fr, _, _, rfl, _⟩⟩ := h <;> (simp; rfl)
  | .sv nm p e n, vs, h, _ => by simp only [satC] at h; obtain ⟨b, k, ln, cap, _, rfl, _⟩ := h; simp; rfl
  | .tnil, vs, h, _ => by simp only [satC] at h; subst h; simp
  | .tcons a b, vs, h, hl => by simp only [satC] at h; obtain ⟨v, r, rfl, _⟩ := h; simp [sizeT] at hl
  | .clo f caps, vs, h, _ => by simp only [satC] at h; obtain ⟨us, rfl, _⟩ := h; simp; rfl
theorem satC_len {c : Ctx} : ∀ {v : TV} {vs : List Value}, satC c v vs → 0 < sizeT v → vs.length = sizeT v
  | .any, vs, _, hl => by simp [sizeT] at hl
  | .und, vs, _, hl => by simp [sizeT] at hl
  | .nil, vs, h, _ => by simp only [satC] at h; subst h; rfl
  | .val s t x, vs, h, _ => by simp only [satC] at h; exact VS_len h
  | .fl s e l, vs, h, _ => by simp only [satC] at h; obtain ⟨a, rfl, _⟩ := h; rfl
  | .pr a b, vs, h, _ => by
    simp only [satC] at h
    obtain ⟨v, r, rfl, h1, h2, _⟩ := h
    rw [List.length_append, h1, h2]; rfl
  | .ptr nm p, vs, h, _ => by simp only [satC] at h; obtain ⟨b, k, ln, _, rfl, _⟩ := h; rfl
  | .rptr s t x, vs, h, _ => by simp only [satC] at h; obtain ⟨b, off, us, rfl, _⟩ := h; rfl
  | .own nm, vs, h, _ => by simp only [satC] at h; obtain ⟨y, k, ln, rfl, _⟩ := h; rfl
  | .ownp nm off len, vs, h, _ => by simp only [satC] at h; obtain ⟨y, rfl, _⟩ := h; rfl
  | .sv nm p e n, vs, h, _ => by simp only [satC] at h; obtain ⟨b, k, ln, cap, _, rfl, _⟩ := h; rfl
  | .tnil, vs, _, hl => by simp [sizeT] at hl
  | .tcons a b, vs, _, hl => by simp [sizeT] at hl
  | .clo f caps, vs, h, _ => by simp only [satC] at h; obtain ⟨us, rfl, _⟩ := h; rfl
theorem sat_cells {c : Ctx} {v : TV} {y : Value} (h : sat c v y) (hs : 0 < sizeT v) : satC c v y.cells.toList ∧ y.cells.size = sizeT v := by
  have ht : isTup v = false := by cases v <;> simp_all [isTup, sizeT]
  simp only [sat, ht, satV] at h
  cases ha : aggT v with
  | true =>
    rw [ha] at h
    obtain ⟨vs, rfl, h⟩ := h
    exact ⟨by simpa [Value.cells] using h, by simpa [Value.cells] using satC_len h hs⟩
  | false =>
    rw [ha] at h
    have hl := satC_len h hs
    have h1 := satC_one h hl y (by simp)
    have hc : y.cells = #[y] := by cases y <;> first | rfl | simp [Value.oneCell'] at h1
    rw [hc]
    exact ⟨h, by simpa using hl⟩
theorem sat_ofC {c : Ctx} {v : TV} (hs : 0 < sizeT v) {vs : List Value} (h : satC c v vs) : sat c v (match aggT v with | true => .agg vs.toArray | false => vs.getD 0 undef) := by
  have ht : isTup v = false := by cases v <;> simp_all [isTup, sizeT]
  simp only [sat, ht, satV]
  cases ha : aggT v with
  | true => exact ⟨vs, rfl, h⟩
  | false =>
    have h1 : sizeT v = 1 := by
      cases v with
      | val s t x => cases t <;> simp_all [aggT, Ty.agg, sizeT, Ty.size]
      | pr => simp [aggT] at ha
      | _ => first | rfl | simp [sizeT] at hs
    have hl := satC_len h hs
    rw [h1] at hl
    match vs, hl with
    | [y], _ => exact h
theorem satC_mkv {c : Ctx} {s : Bool} {t : Ty} {x : t.den} {vs : List Value} (h : VS c s t x vs) : satC c (mkv s t x) vs := by
  simp only [mkv, satC]; exact VS_or h
theorem sizeT_mkv (s : Bool) (t : Ty) (x : t.den) : sizeT (mkv s t x) = t.size := rfl
theorem sizeT_mkp : ∀ a b : TV, sizeT (mkp a b) = sizeT a + sizeT b := by
  intro a b
  cases a <;> cases b <;> rfl
theorem satC_mkp {c : Ctx} {a b : TV} {v r : List Value} (hv : v.length = sizeT a) (hr : r.length = sizeT b) (h1 : satC c a v) (h2 : satC c b r) : satC c (mkp a b) (v ++ r) := by
  have gen : satC c (.pr a b) (v ++ r) := by simp only [satC]; exact ⟨v, r, rfl, hv, hr, h1, h2⟩
  cases a with
  | val s t x =>
    cases b with
    | val s' t' y =>
      simp only [mkp, satC, VS] at h1 h2 ⊢
      exact ⟨v, r, rfl, VS_weak (fun h => (Bool.and_eq_true _ _ ▸ h).1) h1, VS_weak (fun h => (Bool.and_eq_true _ _ ▸ h).2) h2⟩
    | _ => exact gen
  | _ => exact gen
theorem splitT {c : Ctx} {v a b : TV} {vs : List Value} (h1 : fstT v = some a) (h2 : sndT v = some b) (h : satC c v vs) :
    ∃ u r, vs = u ++ r ∧ u.length = sizeT a ∧ r.length = sizeT b ∧ satC c a u ∧ satC c b r ∧ sizeT v = sizeT a + sizeT b := by
  cases v with
  | val s t x =>
    cases t with
    | pair ta tb =>
      simp only [fstT, sndT, Option.some.injEq] at h1 h2
      subst h1; subst h2
      simp only [satC, VS] at h
      obtain ⟨u, r, rfl, g1, g2⟩ := h
      exact ⟨u, r, rfl, VS_len g1, VS_len g2, satC_mkv g1, satC_mkv g2, rfl⟩
    | _ => simp [fstT] at h1
  | pr x y =>
    simp only [fstT, sndT, Option.some.injEq] at h1 h2
    subst h1; subst h2
    simp only [satC] at h
    obtain ⟨u, r, rfl, g1, g2, g3, g4⟩ := h
    exact ⟨u, r, rfl, g1, g2, g3, g4, rfl⟩
  | _ => simp [fstT] at h1
theorem fst_snd {v a : TV} (h : fstT v = some a) : ∃ b, sndT v = some b := by
  cases v with
  | val s t x => cases t <;> first | exact ⟨_, rfl⟩ | simp [fstT] at h
  | pr x y => exact ⟨_, rfl⟩
  | _ => simp [fstT] at h
theorem sub_left {α : Type} {u r : List α} {o n : Nat} (h : o + n ≤ u.length) : ((u ++ r).drop o).take n = (u.drop o).take n := by
  rw [List.drop_append_of_le_length (by omega), List.take_append_of_le_length (by simp; omega)]
theorem sub_right {α : Type} {u r : List α} {o n : Nat} : ((u ++ r).drop (u.length + o)).take n = (r.drop o).take n := by
  rw [← List.drop_drop, List.drop_left]
theorem spl_left {α : Type} {u r x : List α} {o n : Nat} (h : o + n ≤ u.length) : (u ++ r).take o ++ x ++ (u ++ r).drop (o + n) = (u.take o ++ x ++ u.drop (o + n)) ++ r := by
  rw [List.take_append_of_le_length (by omega), List.drop_append_of_le_length (by omega)]; simp
theorem spl_right {α : Type} {u r x : List α} {o n : Nat} : (u ++ r).take (u.length + o) ++ x ++ (u ++ r).drop (u.length + o + n) = u ++ (r.take o ++ x ++ r.drop (o + n)) := by
  rw [List.take_append, Nat.add_assoc, ← List.drop_drop, List.drop_left, List.take_of_length_le (by omega)]; simp
theorem spl_mid {α : Type} {vs x : List α} {i k o n : Nat} (h : o + n ≤ k) (hl : i + k ≤ vs.length) :
    vs.take i ++ (((vs.drop i).take k).take o ++ x ++ ((vs.drop i).take k).drop (o + n)) ++ vs.drop (i + k) = vs.take (i + o) ++ x ++ vs.drop (i + o + n) := by
  have e1 : vs = vs.take i ++ ((vs.drop i).take k ++ (vs.drop i).drop k) := by rw [List.take_append_drop, List.take_append_drop]
  generalize hA : vs.take i = A at *
  generalize hB : (vs.drop i).take k = B at *
  generalize hC : (vs.drop i).drop k = C at *
  have lA : A.length = i := by rw [← hA]; simp; omega
  have lB : B.length = k := by rw [← hB]; simp; omega
  have hD : vs.drop (i + k) = C := by rw [← hC, List.drop_drop]
  rw [hD, e1, ← lA, spl_right, spl_left (by omega)]
  simp
theorem getP_sound {c : Ctx} {len : Nat} : ∀ {p : List Step} {v u : TV} {vs : List Value}, getP p v = some u → satC c v vs → vs.length = sizeT v → PathOK len p →
    satC c u ((vs.drop (offS p)).take (sizeT u)) ∧ offS p + sizeT u ≤ vs.length
  | [], v, u, vs, h, hs, hl, _ => by
    simp only [getP, Option.some.injEq] at h
    subst h
    simp only [offS, List.drop_zero, Nat.zero_add, hl, Nat.le_refl, and_true]
    rw [List.take_of_length_le (by omega)]; exact hs
  | .fst :: p, v, u, vs, h, hs, hl, hp => by
    simp only [getP] at h
    split at h
    case h_2 => cases h
    case h_1 a ha =>
      obtain ⟨b, hb⟩ := fst_snd ha
      obtain ⟨x, r, rfl, g1, g2, g3, g4, g5⟩ := splitT ha hb hs
      obtain ⟨k1, k2⟩ := getP_sound h g3 g1 hp
      simp only [offS]
      refine ⟨by rw [sub_left (by omega)]; exact k1, by simp; omega⟩
  | .snd k :: p, v, u, vs, h, hs, hl, hp => by
    simp only [getP] at h
    split at h
    case h_2 => cases h
    case h_1 a b ha hb =>
      split at h
      case h_2 => cases h
      case h_1 hk =>
        have hk := Nat.eq_of_beq_eq_true hk
        obtain ⟨x, r, rfl, g1, g2, g3, g4, g5⟩ := splitT ha hb hs
        obtain ⟨k1, k2⟩ := getP_sound h g4 g2 hp
        simp only [offS]
        rw [← hk, ← g1]
        refine ⟨by rw [sub_right]; exact k1, by simp; omega⟩
  | .idx i k b :: p, v, u, vs, h, hs, hl, hp => by
    simp only [getP] at h
    split at h
    case h_2 => cases h
    case h_1 s n e x n' =>
      split at h
      case h_2 => cases h
      case h_1 hk hn =>
        have hk := Nat.eq_of_beq_eq_true hk
        have hn := Nat.eq_of_beq_eq_true hn
        subst hk; subst hn
        simp only [PathOK] at hp
        simp only [satC, VS] at hs
        have hg := rowsS_get (k := e.size) (fun _ _ => VS_len) hs (Arr.get_els e.zero (α := e.den) x hp.1)
        obtain ⟨k1, k2⟩ := getP_sound h (satC_mkv hg.1) (VS_len hg.1) hp.2
        have hl2 := VS_len hg.1
        rw [hl2] at k2
        simp only [offS]
        refine ⟨?_, by omega⟩
        rw [List.drop_take, List.take_take, List.drop_drop, Nat.min_eq_left (by omega)] at k1
        exact k1
theorem castT_eq {t t' : Ty} {x : t.den} {y : t'.den} (h : cast? t t' x = some y) : (⟨t, x⟩ : DV) = ⟨t', y⟩ := by
  unfold cast? at h
  split at h
  case isTrue ht => subst ht; simp only [Option.some.injEq, castT] at h; subst h; rfl
  case isFalse => cases h
theorem cast_VS {c : Ctx} {s : Bool} {t t' : Ty} {x : t.den} {y : t'.den} (h : cast? t t' x = some y) {vs : List Value} (hv : VS c s t x vs) : VS c s t' y vs := by
  have := castT_eq h
  injection this with h1 h2
  subst h1
  cases h2
  exact hv
theorem setP_sound {c : Ctx} {len : Nat} : ∀ {p : List Step} {v u v' : TV} {vs us : List Value}, setP p v u = some v' → satC c v vs → vs.length = sizeT v → PathOK len p → satC c u us → us.length = sizeT u →
    satC c v' (vs.take (offS p) ++ us ++ vs.drop (offS p + us.length)) ∧ sizeT v' = sizeT v ∧ offS p + us.length ≤ vs.length
  | [], v, u, v', vs, us, h, hs, hl, _, hu, hul => by
    simp only [setP] at h
    split at h
    case h_2 => cases h
    case h_1 hk =>
      have hk := Nat.eq_of_beq_eq_true hk
      simp only [Option.some.injEq] at h
      subst h
      simp only [offS, List.take_zero, List.nil_append, Nat.zero_add]
      refine ⟨?_, by omega, by omega⟩
      rw [List.drop_eq_nil_of_le (by omega), List.append_nil]; exact hu
  | .fst :: p, v, u, v', vs, us, h, hs, hl, hp, hu, hul => by
    simp only [setP] at h
    split at h
    case h_2 => cases h
    case h_1 a b ha hb =>
      split at h
      case h_2 => cases h
      case h_1 a' ha' =>
        simp only [Option.some.injEq] at h
        subst h
        obtain ⟨x, r, rfl, g1, g2, g3, g4, g5⟩ := splitT ha hb hs
        obtain ⟨k1, k2, k3⟩ := setP_sound ha' g3 g1 hp hu hul
        simp only [offS]
        refine ⟨?_, by rw [sizeT_mkp]; omega, by simp; omega⟩
        rw [spl_left k3]
        refine satC_mkp ?_ g2 k1 g4
        simp; omega
  | .snd k :: p, v, u, v', vs, us, h, hs, hl, hp, hu, hul => by
    simp only [setP] at h
    split at h
    case h_2 => cases h
    case h_1 a b ha hb =>
      split at h
      case h_2 => cases h
      case h_1 b' hk hb' =>
        simp only [Option.some.injEq] at h
        subst h
        have hk := Nat.eq_of_beq_eq_true hk
        obtain ⟨x, r, rfl, g1, g2, g3, g4, g5⟩ := splitT ha hb hs
        obtain ⟨k1, k2, k3⟩ := setP_sound hb' g4 g2 hp hu hul
        simp only [offS]
        rw [← hk, ← g1]
        refine ⟨?_, by rw [sizeT_mkp]; omega, by simp; omega⟩
        rw [spl_right]
        refine satC_mkp g1 ?_ g3 k1
        simp; omega
  | .idx i k b :: p, v, u, v', vs, us, h, hs, hl, hp, hu, hul => by
    simp only [setP] at h
    split at h
    case h_2 => cases h
    case h_1 s n e x n' =>
      split at h
      case h_2 => cases h
      case h_1 s' e' y hk hset =>
        split at h
        case h_2 => cases h
        case h_1 y' hy =>
          simp only [Option.some.injEq] at h
          subst h
          simp only [Bool.and_eq_true] at hk
          have hn := Nat.eq_of_beq_eq_true hk.2
          have hk := Nat.eq_of_beq_eq_true hk.1
          subst hk; subst hn
          simp only [PathOK] at hp
          simp only [satC, VS] at hs
          have hg := rowsS_get (k := e.size) (fun _ _ => VS_len) hs (Arr.get_els e.zero (α := e.den) x hp.1)
          obtain ⟨k1, k2, k3⟩ := setP_sound hset (satC_mkv hg.1) (VS_len hg.1) hp.2 hu hul
          have hl2 := VS_len hg.1
          rw [hl2] at k3
          simp only [satC] at k1
          have k1 := cast_VS hy k1
          simp only [offS]
          refine ⟨?_, rfl, by omega⟩
          simp only [satC, VS]
          have hrow := rowsS_set (f := VS c (s && s') e) (k := e.size) (fun _ _ => VS_len) (rowsS_mono (fun _ _ _ h => VS_weak (fun h => (Bool.and_eq_true _ _ ▸ h).1) h) hs) (i := i) (y := y')
            (Nat.lt_of_lt_of_eq hp.1 (Arr.els_length (n := n) (α := e.den) x).symm) (VS_weak (fun h => (Bool.and_eq_true _ _ ▸ h).2) k1)
          have e1 : Arr.els n (asetD n e x i y') = (Arr.els n x).set i y' := Arr.set_els (α := e.den) x y' hp.1
          rw [e1]
          have hlen := VS_len k1
          rw [hlen, spl_mid k3 (by omega)] at hrow
          exact hrow
end Go.Tv
namespace Go.Tv
open Go Go.RowKit
theorem upd_same {α : Type} (f : Nat → α) (n : Nat) (x : α) : upd f n x n = x := by simp [upd, Nat.beq_refl]
theorem upd_ne {α : Type} (f : Nat → α) {n u : Nat} (x : α) (h : u ≠ n) : upd f n x u = f u := by
  have : Nat.beq u n = false := by
    cases hb : Nat.beq u n with
    | false => rfl
    | true => exact absurd (Nat.eq_of_beq_eq_true hb) h
  simp [upd, this]
structure Ev (X : Nat → Prop) (w w' : World) : Prop where
  os : w'.os = w.os
  tape : w'.tape = w.tape
  output : w'.output = w.output
  size : w.heap.size ≤ w'.heap.size
  block : ∀ b : Nat, b < w.heap.size → ¬ X b → w'.heap[b]? = w.heap[b]?
  shape : ∀ (b : Nat) (cur : Array Value) (ty : TypeId) (fr : Nat × Nat), w.heap[b]? = some (.cells cur ty fr) → ∃ cur', w'.heap[b]? = some (.cells cur' ty fr) ∧ cur'.size = cur.size
theorem Ev.refl (X : Nat → Prop) (w : World) : Ev X w w := ⟨rfl, rfl, rfl, Nat.le_refl _, fun _ _ _ => rfl, fun _ cur _ _ h => ⟨cur, h, rfl⟩⟩
theorem Ev.trans {X Y : Nat → Prop} {a b c : World} (h : Ev X a b) (k : Ev Y b c) (hY : ∀ q, Y q → X q ∨ a.heap.size ≤ q) : Ev X a c := by
  refine ⟨k.os.trans h.os, k.tape.trans h.tape, k.output.trans h.output, Nat.le_trans h.size k.size, fun q hq hX => ?_, fun q cur ty fr hc => ?_⟩
  · rw [k.block q (Nat.lt_of_lt_of_le hq h.size) (fun hy => (hY q hy).elim hX (fun h2 => by omega)), h.block q hq hX]
  · obtain ⟨cur1, h1, e1⟩ := h.shape q cur ty fr hc
    obtain ⟨cur2, h2, e2⟩ := k.shape q cur1 ty fr h1
    exact ⟨cur2, h2, e2.trans e1⟩
theorem Ev.mono {X Y : Nat → Prop} {a b : World} (h : Ev X a b) (hX : ∀ q, X q → Y q) : Ev Y a b :=
  ⟨h.os, h.tape, h.output, h.size, fun q hq hn => h.block q hq (fun hx => hn (hX q hx)), h.shape⟩
theorem Ev.of_below {X : Nat → Prop} {a b : World} (h : Below a.heap.size a b) : Ev X a b :=
  ⟨h.os, h.tape, h.output, h.size, fun q hq _ => h.block q hq, fun q cur ty fr hc => ⟨cur, by rw [h.block q (Array.getElem?_eq_some_iff.1 hc).1]; exact hc, rfl⟩⟩
theorem Ev.cell {X : Nat → Prop} {w w' : World} (h : Ev X w w') {b o : Nat} {y : Value} (hb : ¬ X b) (hc : w.cell? ⟨b, o, none⟩ = some y) : w'.cell? ⟨b, o, none⟩ = some y := by
  have hlt := World.block_lt_of_cell? w ⟨b, o, none⟩ hc
  rw [World.cell?_of_block (w := w) (h.block b hlt hb)]; exact hc
structure WStep (c c' : Ctx) : Prop where
  ev : Ev c.X c.w c'.w
  X : ∀ b, b < c.w.heap.size → c'.X b → c.X b
  Y : ∀ b, b < c.w.heap.size → c'.Y b → c.Y b
  m : ∀ nm b, c.m nm = some b → c'.m nm = some b
  L : ∀ nm x, c.L nm = some x → c'.L nm = some x
theorem WStep.le {c c' : Ctx} (H : WStep c c') (s : Bool) : Le c s c' s :=
  ⟨fun b hb => ⟨Nat.lt_of_lt_of_le hb.1 H.ev.size, fun hx => hb.2.1 (H.X b hb.1 hx), fun hs hy => hb.2.2 hs (H.Y b hb.1 hy)⟩, fun b o us hb hm q v hv => H.ev.cell hb.2.1 (hm q v hv)⟩
theorem ownV_step {c c' : Ctx} (H : WStep c c') {nm off len : Nat} {y : Value} (h : ownV c nm off len y) : ownV c' nm off len y := by
  rcases h with h | ⟨b, k, ln, cap, cur, ty, fr, h1, h0, rfl, h2, h3, h4, h5⟩
  · exact .inl h
  · obtain ⟨cur', g1, g2⟩ := H.ev.shape b cur ty fr h3
    exact .inr ⟨b, k, ln, cap, cur', ty, fr, H.m nm b h1, H.L nm _ h0, rfl, h2, g1, by rw [g2]; exact h4, h5⟩
theorem satC_step {c c' : Ctx} (H : WStep c c') : ∀ {v : TV} {vs : List Value}, satC c v vs → satC c' v vs
  | .any, _, _ => by simp only [satC]
  | .und, _, h => by simp only [satC] at h ⊢; exact h
  | .nil, _, h => by simp only [satC] at h ⊢; exact h
  | .val s t x, vs, h => by simp only [satC] at h ⊢; exact VS_le (H.le s) h
  | .fl s e l, vs, h => by
    simp only [satC] at h ⊢
    obtain ⟨a, rfl, h1, h2⟩ := h
    exact ⟨a, rfl, h1, slM_le (H.le s) (fun _ _ _ h => VS_le (H.le s) h) h2⟩
  | .pr a b, vs, h => by
    simp only [satC] at h ⊢
    obtain ⟨v, r, rfl, h1, h2, h3, h4⟩ := h
    exact ⟨v, r, rfl, h1, h2, satC_step H h3, satC_step H h4⟩
  | .ptr nm p, vs, h => by
    simp only [satC] at h ⊢
    obtain ⟨b, k, ln, h1, rfl, h2, h3⟩ := h
    exact ⟨b, k, ln, H.m nm b h1, rfl, H.L nm _ h2, h3⟩
  | .rptr s t x, vs, h => by
    simp only [satC] at h ⊢
    obtain ⟨b, off, us, rfl, h1, h2, h3⟩ := h
    exact ⟨b, off, us, rfl, (H.le s).ok b h1, VS_le (H.le s) h2, (H.le s).mem b off us h1 h3⟩
  | .own nm, vs, h => by
    simp only [satC] at h ⊢
    obtain ⟨y, k, ln, rfl, h1, h⟩ := h
    exact ⟨y, k, ln, rfl, H.L nm _ h1, ownV_step H h⟩
  | .ownp nm off len, vs, h => by
    simp only [satC] at h ⊢
    obtain ⟨y, rfl, h⟩ := h
    exact ⟨y, rfl, ownV_step H h⟩
  | .sv nm p e n, vs, h => by
    simp only [satC] at h ⊢
    obtain ⟨b, k, ln, cap, h1, rfl, h2, h3, h4, h5⟩ := h
    exact ⟨b, k, ln, cap, H.m nm b h1, rfl, h2, h3, H.L nm _ h4, h5⟩
  | .tnil, _, h => by simp only [satC] at h ⊢; exact h
  | .tcons a b, vs, h => by
    simp only [satC] at h ⊢
    obtain ⟨v, r, rfl, h1, h2, h3⟩ := h
    exact ⟨v, r, rfl, h1, satC_step H h2, satC_step H h3⟩
  | .clo f caps, vs, h => by
    simp only [satC] at h ⊢
    obtain ⟨us, rfl, h⟩ := h
    exact ⟨us, rfl, satC_step H h⟩
theorem satV_step {c c' : Ctx} (H : WStep c c') {v : TV} {y : Value} (h : satV c v y) : satV c' v y := by
  unfold satV at h ⊢
  cases ha : aggT v with
  | true => rw [ha] at h; obtain ⟨vs, rfl, h⟩ := h; exact ⟨vs, rfl, satC_step H h⟩
  | false => rw [ha] at h; exact satC_step H h
theorem satT_step {c c' : Ctx} (H : WStep c c') : ∀ {v : TV} {vs : List Value}, satT c v vs → satT c' v vs
  | .tnil, vs, h => by simp only [satT] at h ⊢; exact h
  | .tcons a b, vs, h => by
    simp only [satT] at h ⊢
    obtain ⟨v, r, rfl, h1, h2⟩ := h
    exact ⟨v, r, rfl, satV_step H h1, satT_step H h2⟩
  | .any, _, h | .und, _, h | .nil, _, h | .val .., _, h | .fl .., _, h | .pr .., _, h | .ptr .., _, h | .rptr .., _, h | .own _, _, h | .ownp .., _, h | .sv .., _, h | .clo .., _, h => by simp [satT] at h
theorem sat_step {c c' : Ctx} (H : WStep c c') {v : TV} {y : Value} (h : sat c v y) : sat c' v y := by
  unfold sat at h ⊢
  cases ht : isTup v with
  | true => rw [ht] at h; obtain ⟨vs, rfl, h⟩ := h; exact ⟨vs, rfl, satT_step H h⟩
  | false => rw [ht] at h; exact satV_step H h
def noFr (fr : Nat × Nat) (n : Nat) : Prop := ∀ q, q < n → (decide (fr.1 ≤ q) && decide (q < fr.2)) = false
theorem noFr_zero (n : Nat) : noFr (0, 0) n := fun q _ => by simp
def objOK (c : Ctx) (nm : Nat) : TObj → Prop
  | .var ty v => c.L nm = some (0, 0) ∧ ∃ b cur fr, c.m nm = some b ∧ c.w.heap[b]? = some (.cells cur ty fr) ∧ noFr fr cur.size ∧ satC c v cur.toList ∧ cur.size = sizeT v
  | .rows ty s e l => c.L nm = some (e.size, List.length l) ∧ ((c.m nm = none ∧ l = ([] : List e.den)) ∨ ∃ b cur fr cap us rest, c.m nm = some b ∧ c.w.heap[b]? = some (.cells cur ty fr) ∧ noFr fr cur.size ∧
      cur.size = cap * e.size ∧ List.length l ≤ cap ∧ cap ≤ maxLen ∧ cur.toList = us ++ rest ∧ rowsS (VS c s e) l us)
theorem objOK_step {c c' : Ctx} (H : WStep c c') {nm : Nat} {o : TObj} (hm : c'.m nm = c.m nm) (hL : c'.L nm = c.L nm) (hb : ∀ b, c.m nm = some b → c'.w.heap[b]? = c.w.heap[b]?) (h : objOK c nm o) : objOK c' nm o := by
  cases o with
  | var ty v =>
    obtain ⟨h0, b, cur, fr, h1, h2, h3, h4, h5⟩ := h
    exact ⟨hL.trans h0, b, cur, fr, hm.trans h1, (hb b h1).trans h2, h3, satC_step H h4, h5⟩
  | rows ty s e l =>
    obtain ⟨h0, h⟩ := h
    refine ⟨hL.trans h0, ?_⟩
    rcases h with ⟨h1, h2⟩ | ⟨b, cur, fr, cap, us, rest, h1, h2, h3, h4, h5, h6, h7, h8⟩
    · exact .inl ⟨hm.trans h1, h2⟩
    · exact .inr ⟨b, cur, fr, cap, us, rest, hm.trans h1, (hb b h1).trans h2, h3, h4, h5, h6, h7, rowsS_mono (fun _ _ _ h => VS_le (H.le s) h) h8⟩
def St.X (st : St) (m : Nat → Option Nat) : Nat → Prop := fun b => ∃ nm o, st.objs nm = some o ∧ m nm = some b
class Inv where
  blk : Nat → Prop
  holds : World → Prop
  keep : ∀ w w', holds w → (∀ b, blk b → b < w.heap.size → w'.heap[b]? = w.heap[b]?) → holds w'
structure Base [Inv] where
  w0 : World
  X0 : Nat → Prop
  Y : Nat → Prop
  m0 : Nat → Option Nat
  L0 : Nat → Option (Nat × Nat)
  n0 : Nat
  nt : Nat
  hY : ∀ b, Y b → b < w0.heap.size
  inv : Inv.holds w0 ∧ ∀ b, Inv.blk b → b < w0.heap.size ∧ ¬ X0 b
def St.ctx [Inv] (B : Base) (st : St) (m : Nat → Option Nat) (L : Nat → Option (Nat × Nat)) (w : World) : Ctx := ⟨w, st.X m, B.Y, m, L⟩
structure Rep [Inv] (B : Base) (F : Nat → Prop) (st : St) (m : Nat → Option Nat) (L : Nat → Option (Nat × Nat)) (a : Act) (w : World) : Prop where
  sz : a.tmps.size = B.nt
  df : a.defers = []
  slots : ∀ t, sat (st.ctx B m L w) (st.env t) (a.tmps.getD t undef)
  obj : ∀ nm o, st.objs nm = some o → objOK (st.ctx B m L w) nm o
  inj : ∀ nm nm' o o' b, st.objs nm = some o → st.objs nm' = some o' → m nm = some b → m nm' = some b → nm = nm'
  mf : ∀ nm, F nm → m nm = none ∧ L nm = none ∧ st.objs nm = none
  mb : ∀ nm b, m nm = some b → b < w.heap.size
  ev : Ev B.X0 B.w0 w
  fr : ∀ nm o b, st.objs nm = some o → m nm = some b → B.X0 b ∨ B.w0.heap.size ≤ b
  yb : ∀ nm o b, st.objs nm = some o → m nm = some b → ¬ B.Y b
  base : ∀ p, p < B.n0 → m p = B.m0 p ∧ L p = B.L0 p
  n0 : ∀ p, p < B.n0 → ¬ F p
theorem St.put_objs (st : St) (d : Option Tmp) (av : TV) : (st.put d av).objs = st.objs := by cases d <;> rfl
theorem St.put_nx (st : St) (d : Option Tmp) (av : TV) : (st.put d av).nx = st.nx := by cases d <;> rfl
theorem St.put_ctx [Inv] (B : Base) (st : St) (d : Option Tmp) (av : TV) (m : Nat → Option Nat) (L : Nat → Option (Nat × Nat)) (w : World) : (st.put d av).ctx B m L w = st.ctx B m L w := by cases d <;> rfl
def St.set (st : St) (nm : Nat) (o : Option TObj) : St := { st with objs := upd st.objs nm o }
theorem al_old (w : World) (o : Obj) {b : Nat} (h : b < w.heap.size) : (w.alloc o).heap[b]? = w.heap[b]? := by
  show (w.heap.push o)[b]? = w.heap[b]?
  rw [Array.getElem?_push, if_neg (Nat.ne_of_lt h)]
theorem al_new (w : World) (o : Obj) : (w.alloc o).heap[w.heap.size]? = some o := by
  show (w.heap.push o)[w.heap.size]? = some o
  simp
theorem Ev.drew (w : World) : Ev (fun _ => False) w w.drew := ⟨rfl, rfl, rfl, Nat.le_refl _, fun _ _ _ => rfl, fun _ cur _ _ h => ⟨cur, h, rfl⟩⟩
theorem Ev.alloc (w : World) (o : Obj) : Ev (fun _ => False) w (w.alloc o) :=
  ⟨rfl, rfl, rfl, by simp, fun b hb _ => al_old w o hb, fun b cur _ _ h => ⟨cur, by rw [al_old w o (Array.getElem?_eq_some_iff.1 h).1]; exact h, rfl⟩⟩
theorem Ev.setRow {X : Nat → Prop} {w : World} {g : Nat} {old : Array Value} {t : TypeId} {fr : Nat × Nat} (hg : w.heap[g]? = some (.cells old t fr)) (hX : X g) (cs : Array Value) (hsz : cs.size = old.size) : Ev X w (w.setRow g cs) := by
  refine ⟨rfl, rfl, rfl, by simp, fun b hb hnx => setRow_other w g b cs (by rintro rfl; exact hnx hX), fun b cur ty fr' hc => ?_⟩
  by_cases hb : b = g
  · subst hb
    rw [hg] at hc; injection hc with hc; injection hc with h1 h2 h3; subst h1; subst h2; subst h3
    exact ⟨cs, setRow_heap w b old cs t fr hg, hsz⟩
  · exact ⟨cur, by rw [setRow_other w g b cs hb]; exact hc, rfl⟩
section
variable [Inv] {B : Base} {F : Nat → Prop} {st : St} {m : Nat → Option Nat} {L : Nat → Option (Nat × Nat)} {a : Act} {w : World}
theorem Rep.put (h : Rep B F st m L a w) {dst : Option Tmp} (hd : ∀ t, dst = some t → t < B.nt) {av : TV} {y : Value} (hs : sat (st.ctx B m L w) av y) : Rep B F (st.put dst av) m L (a.put dst y) w := by
  refine ⟨?_, ?_, fun t => ?_, ?_, ?_, ?_, h.mb, h.ev, ?_, ?_, h.base, h.n0⟩
  · cases dst <;> simp [Act.put, h.sz]
  · cases dst <;> exact h.df
  · rw [St.put_ctx]
    cases dst with
    | none => exact h.slots t
    | some d =>
      have hdl := hd d rfl
      by_cases ht : t = d
      · subst ht
        simp only [St.put, upd_same, Act.put]
        have : (a.tmps.setIfInBounds t y).getD t undef = y := by simp [h.sz, hdl]
        rw [this]; exact hs
      · simp only [St.put, upd_ne _ _ ht, Act.put]
        have : (a.tmps.setIfInBounds d y).getD t undef = a.tmps.getD t undef := by
          simp [Array.getElem?_setIfInBounds_ne (fun e => ht e.symm)]
        rw [this]; exact h.slots t
  · rw [St.put_objs, St.put_ctx]; exact h.obj
  · rw [St.put_objs]; exact h.inj
  · rw [St.put_objs]; exact h.mf
  · rw [St.put_objs]; exact h.fr
  · rw [St.put_objs]; exact h.yb
theorem Rep.grow (h : Rep B F st m L a w) {w' : World} (he : Ev (fun _ => False) w w') : Rep B F st m L a w' := by
  have H : WStep (st.ctx B m L w) (st.ctx B m L w') := ⟨he.mono (fun _ h => h.elim), fun _ _ h => h, fun _ _ h => h, fun _ _ h => h, fun _ _ h => h⟩
  exact ⟨h.sz, h.df, fun t => sat_step H (h.slots t), fun nm o ho => objOK_step H rfl rfl (fun b hb => he.block b (h.mb nm b hb) (fun h => h)) (h.obj nm o ho), h.inj, h.mf,
    fun nm b hb => Nat.lt_of_lt_of_le (h.mb nm b hb) he.size, h.ev.trans he (fun _ h => h.elim), h.fr, h.yb, h.base, h.n0⟩
theorem Rep.weakF (h : Rep B F st m L a w) {F' : Nat → Prop} (hF : ∀ x, F' x → F x) : Rep B F' st m L a w :=
  ⟨h.sz, h.df, h.slots, h.obj, h.inj, fun x hx => h.mf x (hF x hx), h.mb, h.ev, h.fr, h.yb, h.base, fun p hp hx => h.n0 p hp (hF p hx)⟩
theorem Rep.sub (h : Rep B F st m L a w) {st' : St} (ho : ∀ nm o, st'.objs nm = some o → st.objs nm = some o) (he : ∀ t, st'.env t = .any ∨ st'.env t = st.env t) : Rep B F st' m L a w := by
  have H : WStep (st.ctx B m L w) (st'.ctx B m L w) := ⟨Ev.refl _ _, fun b _ ⟨n, o, h1, h2⟩ => ⟨n, o, ho n o h1, h2⟩, fun _ _ h => h, fun _ _ h => h, fun _ _ h => h⟩
  refine ⟨h.sz, h.df, fun t => ?_, fun n o hn => objOK_step H rfl rfl (fun _ _ => rfl) (h.obj n o (ho n o hn)), fun n n' o o' b h1 h2 => h.inj n n' o o' b (ho n o h1) (ho n' o' h2),
    fun x hF => ⟨(h.mf x hF).1, (h.mf x hF).2.1, ?_⟩, h.mb, h.ev, fun n o b h1 h2 => h.fr n o b (ho n o h1) h2, fun n o b h1 h2 => h.yb n o b (ho n o h1) h2, h.base, h.n0⟩
  · rcases he t with he | he
    · rw [he]; exact sat_any
    · rw [he]; exact sat_step H (h.slots t)
  · cases hx : st'.objs x with
    | none => rfl
    | some o => have := ho x o hx; rw [(h.mf x hF).2.2] at this; cases this
theorem Rep.kill (h : Rep B F st m L a w) (nm : Nat) : Rep B F (st.set nm none) m L a w := by
  refine h.sub (fun n o ho => ?_) fun t => .inr rfl
  simp only [St.set] at ho
  by_cases hn : n = nm
  · subst hn; rw [upd_same] at ho; cases ho
  · rwa [upd_ne _ _ hn] at ho
theorem Rep.newObj (h : Rep B F st m L a w) {nm : Nat} (hF : F nm) (o : TObj) (cells : Array Value) (ty : TypeId) (fr : Nat × Nat) (lay : Nat × Nat)
    (hok : ∀ c', WStep (st.ctx B m L w) c' → c'.w = w.alloc (.cells cells ty fr) → c'.m nm = some w.heap.size → c'.L nm = some lay → objOK c' nm o) :
    Rep B (fun x => F x ∧ x ≠ nm) (st.set nm (some o)) (upd m nm (some w.heap.size)) (upd L nm (some lay)) a (w.alloc (.cells cells ty fr)) := by
  obtain ⟨hm0, hL0, ho0⟩ := h.mf nm hF
  have hX : ∀ b, b < w.heap.size → (st.set nm (some o)).X (upd m nm (some w.heap.size)) b → st.X m b := by
    rintro b hb ⟨n, o', h1, h2⟩
    simp only [St.set] at h1
    by_cases hn : n = nm
    · subst hn; rw [upd_same] at h2; simp only [Option.some.injEq] at h2; omega
    · rw [upd_ne _ _ hn] at h1 h2; exact ⟨n, o', h1, h2⟩
  have H : WStep (st.ctx B m L w) ((st.set nm (some o)).ctx B (upd m nm (some w.heap.size)) (upd L nm (some lay)) (w.alloc (.cells cells ty fr))) := by
    refine ⟨(Ev.alloc w _).mono (fun _ h => h.elim), hX, fun _ _ h => h, fun n b hb => ?_, fun n x hx => ?_⟩
    · have hn : n ≠ nm := by rintro rfl; simp only [St.ctx] at hb; rw [hm0] at hb; cases hb
      simp only [St.ctx]; rw [upd_ne _ _ hn]; exact hb
    · have hn : n ≠ nm := by rintro rfl; simp only [St.ctx] at hx; rw [hL0] at hx; cases hx
      simp only [St.ctx]; rw [upd_ne _ _ hn]; exact hx
  refine ⟨h.sz, h.df, fun t => sat_step H (h.slots t), fun n o' ho => ?_, fun n n' o1 o2 b h1 h2 h3 h4 => ?_, fun x hx => ?_, fun n b hb => ?_, h.ev.trans (Ev.alloc w _) (fun _ h => h.elim), fun n o' b h1 h2 => ?_, fun n o' b h1 h2 => ?_, fun p hp => ?_, fun p hp hx => h.n0 p hp hx.1⟩
  · simp only [St.set] at ho
    by_cases hn : n = nm
    · subst hn
      rw [upd_same] at ho
      simp only [Option.some.injEq] at ho
      subst ho
      exact hok _ H rfl (by simp only [St.ctx]; rw [upd_same]) (by simp only [St.ctx]; rw [upd_same])
    · rw [upd_ne _ _ hn] at ho
      exact objOK_step H (by simp only [St.ctx]; rw [upd_ne _ _ hn]) (by simp only [St.ctx]; rw [upd_ne _ _ hn]) (fun b hb => al_old w _ (h.mb n b hb)) (h.obj n o' ho)
  · simp only [St.set] at h1 h2
    by_cases hn : n = nm <;> by_cases hn' : n' = nm
    · rw [hn, hn']
    · exfalso; subst hn; rw [upd_same] at h3; rw [upd_ne _ _ hn'] at h4
      simp only [Option.some.injEq] at h3; subst h3; exact absurd (h.mb n' _ h4) (Nat.lt_irrefl _)
    · exfalso; subst hn'; rw [upd_same] at h4; rw [upd_ne _ _ hn] at h3
      simp only [Option.some.injEq] at h4; subst h4; exact absurd (h.mb n _ h3) (Nat.lt_irrefl _)
    · rw [upd_ne _ _ hn] at h1 h3; rw [upd_ne _ _ hn'] at h2 h4; exact h.inj n n' o1 o2 b h1 h2 h3 h4
  · simp only [St.set]
    rw [upd_ne _ _ hx.2, upd_ne _ _ hx.2, upd_ne _ _ hx.2]; exact h.mf x hx.1
  · by_cases hn : n = nm
    · subst hn; rw [upd_same] at hb; simp only [Option.some.injEq] at hb; subst hb; simp
    · rw [upd_ne _ _ hn] at hb; have := h.mb n b hb; simp; omega
  · simp only [St.set] at h1
    by_cases hn : n = nm
    · subst hn; rw [upd_same] at h2; simp only [Option.some.injEq] at h2; subst h2; exact .inr h.ev.size
    · rw [upd_ne _ _ hn] at h1 h2; exact h.fr n o' b h1 h2
  · simp only [St.set] at h1
    by_cases hn : n = nm
    · subst hn; rw [upd_same] at h2; simp only [Option.some.injEq] at h2; subst h2
      intro hy; have := B.hY _ hy; have := h.ev.size; omega
    · rw [upd_ne _ _ hn] at h1 h2; exact h.yb n o' b h1 h2
  · have hn : p ≠ nm := by rintro rfl; exact h.n0 p hp hF
    rw [upd_ne _ _ hn, upd_ne _ _ hn]; exact h.base p hp
theorem Rep.newVirt (h : Rep B F st m L a w) {nm : Nat} (hF : F nm) (ty : TypeId) (s : Bool) (e : Ty) :
    Rep B (fun x => F x ∧ x ≠ nm) (st.set nm (some (.rows ty s e ([] : List e.den)))) m (upd L nm (some (e.size, 0))) a w := by
  obtain ⟨hm0, hL0, ho0⟩ := h.mf nm hF
  have H : WStep (st.ctx B m L w) ((st.set nm (some (.rows ty s e ([] : List e.den)))).ctx B m (upd L nm (some (e.size, 0))) w) := by
    refine ⟨Ev.refl _ _, ?_, fun _ _ h => h, fun _ _ h => h, fun n x hx => ?_⟩
    · rintro b hb ⟨n, o, h1, h2⟩
      simp only [St.set] at h1
      have hn : n ≠ nm := by rintro rfl; rw [hm0] at h2; cases h2
      rw [upd_ne _ _ hn] at h1; exact ⟨n, o, h1, h2⟩
    · have hn : n ≠ nm := by rintro rfl; simp only [St.ctx] at hx; rw [hL0] at hx; cases hx
      simp only [St.ctx]; rw [upd_ne _ _ hn]; exact hx
  refine ⟨h.sz, h.df, fun t => sat_step H (h.slots t), fun n o ho => ?_, fun n n' o o' b h1 h2 h3 h4 => ?_, fun x hx => ?_, h.mb, h.ev, fun n o b h1 h2 => ?_, fun n o b h1 h2 => ?_, fun p hp => ?_, fun p hp hx => h.n0 p hp hx.1⟩
  · simp only [St.set] at ho
    by_cases hn : n = nm
    · subst hn
      rw [upd_same] at ho
      simp only [Option.some.injEq] at ho
      subst ho
      exact ⟨by simp only [St.ctx]; rw [upd_same]; rfl, .inl ⟨hm0, rfl⟩⟩
    · rw [upd_ne _ _ hn] at ho
      exact objOK_step H rfl (by simp only [St.ctx]; rw [upd_ne _ _ hn]) (fun b hb => rfl) (h.obj n o ho)
  · simp only [St.set] at h1 h2
    have hn : n ≠ nm := by rintro rfl; rw [hm0] at h3; cases h3
    have hn' : n' ≠ nm := by rintro rfl; rw [hm0] at h4; cases h4
    rw [upd_ne _ _ hn] at h1; rw [upd_ne _ _ hn'] at h2; exact h.inj n n' o o' b h1 h2 h3 h4
  · simp only [St.set]
    rw [upd_ne _ _ hx.2, upd_ne _ _ hx.2]; exact h.mf x hx.1
  · simp only [St.set] at h1
    have hn : n ≠ nm := by rintro rfl; rw [hm0] at h2; cases h2
    rw [upd_ne _ _ hn] at h1; exact h.fr n o b h1 h2
  · simp only [St.set] at h1
    have hn : n ≠ nm := by rintro rfl; rw [hm0] at h2; cases h2
    rw [upd_ne _ _ hn] at h1; exact h.yb n o b h1 h2
  · have hn : p ≠ nm := by rintro rfl; exact h.n0 p hp hF
    rw [upd_ne _ _ hn]; exact h.base p hp
theorem Rep.setObj (h : Rep B F st m L a w) {nm b : Nat} {o o' : TObj} (ho : st.objs nm = some o) (hm : m nm = some b) {cur cur' : Array Value} {ty : TypeId} {fr : Nat × Nat}
    (hcur : w.heap[b]? = some (.cells cur ty fr)) (hsz : cur'.size = cur.size)
    (hok : ∀ c', WStep (st.ctx B m L w) c' → c'.w = w.setRow b cur' → c'.m = m → c'.L = L → objOK c' nm o') :
    Rep B F (st.set nm (some o')) m L a (w.setRow b cur') := by
  have hXb : st.X m b := ⟨nm, o, ho, hm⟩
  have hE : Ev (st.X m) w (w.setRow b cur') := Ev.setRow hcur hXb cur' hsz
  have hx : ∀ n o1, (st.set nm (some o')).objs n = some o1 → ∃ o2, st.objs n = some o2 ∧ (n ≠ nm → o2 = o1) := by
    intro n o1 ho1
    simp only [St.set] at ho1
    by_cases hn : n = nm
    · subst hn; exact ⟨o, ho, fun h => absurd rfl h⟩
    · rw [upd_ne _ _ hn] at ho1; exact ⟨o1, ho1, fun _ => rfl⟩
  have H : WStep (st.ctx B m L w) ((st.set nm (some o')).ctx B m L (w.setRow b cur')) :=
    ⟨hE, fun b' _ ⟨n, o1, h1, h2⟩ => let ⟨o2, h3, _⟩ := hx n o1 h1; ⟨n, o2, h3, h2⟩, fun _ _ h => h, fun _ _ h => h, fun _ _ h => h⟩
  refine ⟨h.sz, h.df, fun t => sat_step H (h.slots t), fun n o1 ho1 => ?_, fun n n' o1 o2 b' h1 h2 => ?_, fun x hF => ?_, fun n b' hb => by simpa using h.mb n b' hb, ?_, fun n o1 b' h1 h2 => ?_, fun n o1 b' h1 h2 => ?_, h.base, h.n0⟩
  · by_cases hn : n = nm
    · subst hn
      simp only [St.set, upd_same, Option.some.injEq] at ho1
      subst ho1
      exact hok _ H rfl rfl rfl
    · have ho2 : st.objs n = some o1 := by simp only [St.set] at ho1; rwa [upd_ne _ _ hn] at ho1
      refine objOK_step H rfl rfl (fun b' hb' => setRow_other w b b' cur' ?_) (h.obj n o1 ho2)
      rintro rfl
      exact hn (h.inj n nm o1 o b' ho2 ho hb' hm)
  · obtain ⟨o1', g1, _⟩ := hx n o1 h1
    obtain ⟨o2', g2, _⟩ := hx n' o2 h2
    exact h.inj n n' o1' o2' b' g1 g2
  · have := h.mf x hF
    refine ⟨this.1, this.2.1, ?_⟩
    simp only [St.set]
    by_cases hn : x = nm
    · subst hn; rw [this.2.2] at ho; cases ho
    · rw [upd_ne _ _ hn]; exact this.2.2
  · refine h.ev.trans hE ?_
    rintro q ⟨n, o1, h1, h2⟩
    exact h.fr n o1 q h1 h2
  · obtain ⟨o2, g2, _⟩ := hx n o1 h1
    exact h.fr n o2 b' g2 h2
  · obtain ⟨o2, g2, _⟩ := hx n o1 h1
    exact h.yb n o2 b' g2 h2
theorem Rep.replace (h : Rep B F st m L a w) {nm1 nm b : Nat} {o o' : TObj} (ho : st.objs nm1 = some o) (hm : m nm1 = some b) (hF : F nm) {cur cur' : Array Value} {ty : TypeId} {fr : Nat × Nat} (lay : Nat × Nat)
    (hcur : w.heap[b]? = some (.cells cur ty fr)) (hsz : cur'.size = cur.size)
    (hok : ∀ c', WStep (st.ctx B m L w) c' → c'.w = w.setRow b cur' → c'.m nm = some b → c'.L nm = some lay → objOK c' nm o') :
    Rep B (fun x => F x ∧ x ≠ nm) ((st.set nm1 none).set nm (some o')) (upd m nm (some b)) (upd L nm (some lay)) a (w.setRow b cur') := by
  obtain ⟨hm0, hL0, ho0⟩ := h.mf nm hF
  have hne : nm1 ≠ nm := by rintro rfl; rw [ho0] at ho; cases ho
  have hXb : st.X m b := ⟨nm1, o, ho, hm⟩
  have hE : Ev (st.X m) w (w.setRow b cur') := Ev.setRow hcur hXb cur' hsz
  have hx : ∀ n o1, ((st.set nm1 none).set nm (some o')).objs n = some o1 → (n = nm ∧ o1 = o') ∨ (n ≠ nm ∧ n ≠ nm1 ∧ st.objs n = some o1) := by
    intro n o1 ho1
    simp only [St.set] at ho1
    by_cases hn : n = nm
    · subst hn; rw [upd_same] at ho1; injection ho1 with ho1; exact .inl ⟨rfl, ho1.symm⟩
    · rw [upd_ne _ _ hn] at ho1
      by_cases hn1 : n = nm1
      · subst hn1; rw [upd_same] at ho1; cases ho1
      · rw [upd_ne _ _ hn1] at ho1; exact .inr ⟨hn, hn1, ho1⟩
  have hX : ∀ b', ((st.set nm1 none).set nm (some o')).X (upd m nm (some b)) b' → st.X m b' := by
    rintro b' ⟨n, o1, h1, h2⟩
    rcases hx n o1 h1 with ⟨rfl, _⟩ | ⟨g1, g2, g3⟩
    · rw [upd_same] at h2; injection h2 with h2; subst h2; exact hXb
    · rw [upd_ne _ _ g1] at h2; exact ⟨n, o1, g3, h2⟩
  have H : WStep (st.ctx B m L w) (((st.set nm1 none).set nm (some o')).ctx B (upd m nm (some b)) (upd L nm (some lay)) (w.setRow b cur')) :=
    ⟨hE, fun b' _ hb' => hX b' hb', fun _ _ h => h, fun n b' hb' => by
      have hx' : m n = some b' := hb'
      have hn : n ≠ nm := by rintro rfl; rw [hm0] at hx'; cases hx'
      show upd m nm (some b) n = some b'
      rw [upd_ne _ _ hn]; exact hx', fun n x hx => by
      have hx' : L n = some x := hx
      have hn : n ≠ nm := by rintro rfl; rw [hL0] at hx'; cases hx'
      show upd L nm (some lay) n = some x
      rw [upd_ne _ _ hn]; exact hx'⟩
  refine ⟨h.sz, h.df, fun t => sat_step H (h.slots t), fun n o1 ho1 => ?_, fun n n' o1 o2 b' h1 h2 h3 h4 => ?_, fun x hF' => ?_, fun n b' hb => ?_, ?_, fun n o1 b' h1 h2 => ?_, fun n o1 b' h1 h2 => ?_, fun p hp => ?_, fun p hp hx => h.n0 p hp hx.1⟩
  · rcases hx n o1 ho1 with ⟨rfl, rfl⟩ | ⟨g1, g2, g3⟩
    · exact hok _ H rfl (by simp only [St.ctx]; rw [upd_same]) (by simp only [St.ctx]; rw [upd_same])
    · refine objOK_step H (by simp only [St.ctx]; rw [upd_ne _ _ g1]) (by simp only [St.ctx]; rw [upd_ne _ _ g1]) (fun b' hb' => setRow_other w b b' cur' ?_) (h.obj n o1 g3)
      rintro rfl
      exact g2 (h.inj n nm1 o1 o b' g3 ho hb' hm)
  · rcases hx n o1 h1 with ⟨rfl, _⟩ | ⟨g1, g2, g3⟩ <;> rcases hx n' o2 h2 with ⟨rfl, _⟩ | ⟨g1', g2', g3'⟩
    · rfl
    · rw [upd_same] at h3; rw [upd_ne _ _ g1'] at h4; injection h3 with h3; subst h3; exact absurd (h.inj n' nm1 o2 o b g3' ho h4 hm) g2'
    · rw [upd_same] at h4; rw [upd_ne _ _ g1] at h3; injection h4 with h4; subst h4; exact absurd (h.inj n nm1 o1 o b g3 ho h3 hm) g2
    · rw [upd_ne _ _ g1] at h3; rw [upd_ne _ _ g1'] at h4; exact h.inj n n' o1 o2 b' g3 g3' h3 h4
  · have := h.mf x hF'.1
    refine ⟨by rw [upd_ne _ _ hF'.2]; exact this.1, by rw [upd_ne _ _ hF'.2]; exact this.2.1, ?_⟩
    simp only [St.set]
    rw [upd_ne _ _ hF'.2]
    by_cases hn : x = nm1
    · subst hn; rw [upd_same]
    · rw [upd_ne _ _ hn]; exact this.2.2
  · by_cases hn : n = nm
    · subst hn; rw [upd_same] at hb; injection hb with hb; subst hb; simpa using h.mb nm1 b hm
    · rw [upd_ne _ _ hn] at hb; simpa using h.mb n b' hb
  · exact h.ev.trans hE fun q ⟨n, o1, h1, h2⟩ => h.fr n o1 q h1 h2
  · rcases hx n o1 h1 with ⟨rfl, _⟩ | ⟨g1, g2, g3⟩
    · rw [upd_same] at h2; injection h2 with h2; subst h2; exact h.fr nm1 o b ho hm
    · rw [upd_ne _ _ g1] at h2; exact h.fr n o1 b' g3 h2
  · rcases hx n o1 h1 with ⟨rfl, _⟩ | ⟨g1, g2, g3⟩
    · rw [upd_same] at h2; injection h2 with h2; subst h2; exact h.yb nm1 o b ho hm
    · rw [upd_ne _ _ g1] at h2; exact h.yb n o1 b' g3 h2
  · have hn : p ≠ nm := by rintro rfl; exact h.n0 p hp hF
    rw [upd_ne _ _ hn, upd_ne _ _ hn]; exact h.base p hp
end
end Go.Tv
namespace Go.Tv
open Go Go.RowKit
def zeq : Value → Value → Bool
  | .int k a, .int k' b => decide (k = k') && decide (a = b)
  | .bool a, .bool b => decide (a = b)
  | .string a, .string b => Nat.beq a.size 0 && Nat.beq b.size 0
  | .slice none 0 0, .slice none 0 0 => true
  | _, _ => false
def zeqL : List Value → List Value → Bool
  | [], [] => true
  | a :: l, b :: r => zeq a b && zeqL l r
  | _, _ => false
theorem size_zero {a : ByteArray} (h : a.size = 0) : a = ⟨#[]⟩ := by
  obtain ⟨d⟩ := a
  have : d.size = 0 := h
  rw [Array.eq_empty_of_size_eq_zero this]
theorem zeq_eq {a b : Value} (h : zeq a b = true) : a = b := by
  unfold zeq at h
  split at h
  · simp only [Bool.and_eq_true, decide_eq_true_eq] at h; rw [h.1, h.2]
  · simp only [decide_eq_true_eq] at h; rw [h]
  · simp only [Bool.and_eq_true] at h
    rw [size_zero (Nat.eq_of_beq_eq_true h.1), size_zero (Nat.eq_of_beq_eq_true h.2)]
  · rfl
  · cases h
theorem zeqL_eq : ∀ {l r : List Value}, zeqL l r = true → l = r
  | [], [], _ => rfl
  | a :: l, b :: r, h => by
    simp only [zeqL, Bool.and_eq_true] at h
    rw [zeq_eq h.1, zeqL_eq h.2]
  | [], _ :: _, h => by simp [zeqL] at h
  | _ :: _, [], h => by simp [zeqL] at h
theorem beqB_eq {a b : Bool} (h : beqB a b = true) : a = b := by cases a <;> cases b <;> first | rfl | cases h
def aggB : Option TypeDesc → Option Bool
  | some (.struct _) | some (.array ..) => some true
  | some _ => some false
  | none => none
def infB (P : Program) (t : TypeId) (ty : Ty) : Bool := match P.info? t with
  | some i => Nat.beq i.size ty.size && Nat.blt 0 ty.size && (match i.zero with
    | some z => zeqL z.cells.toList ty.zcells
    | none => false) && (match aggB (P.underlying t) with
    | some b => beqB b ty.agg
    | none => false)
  | none => false
def bytesB (P : Program) (t : TypeId) (b : Nat) : Bool := match P.info? t with
  | some i => Nat.beq i.bytes b
  | none => false
def fldB (P : Program) : List Field → Ty → Nat → Bool
  | [f], t, off => Nat.beq f.offset off && infB P f.type t
  | f :: g :: l, .pair a b, off => Nat.beq f.offset off && infB P f.type a && fldB P (g :: l) b (off + a.size)
  | _, _, _ => false
def tyB (P : Program) (t : TypeId) (x : TyE) : Bool := infB P t x.t && (match x.t, P.underlying t with
  | .int k, some (.int k') => decide (k' = k)
  | .bool, some .bool => true
  | .str, some .string => true
  | .sl e, some (.slice el) => Nat.beq x.nf el && infB P el e && bytesB P el x.bytes
  | .arr n e, some (.array n' el) => Nat.beq n' n && infB P el e
  | .pair a b, some (.struct F) => Nat.beq F.toList.length x.nf && fldB P F.toList (.pair a b) 0
  | _, _ => false)
def oneB (P : Program) (t : TypeId) : Bool := match P.info? t, aggB (P.underlying t) with
  | some i, some false => Nat.beq i.size 1
  | _, _ => false
def eqF (P : Program) (f : TypeId → Ty → Bool) : List Field → Ty → Nat → Bool
  | [g], t, off => (g.name != "_") && Nat.beq g.offset off && infB P g.type t && f g.type t
  | g :: h :: l, .pair a b, off => (g.name != "_") && Nat.beq g.offset off && infB P g.type a && f g.type a && eqF P f (h :: l) b (off + a.size)
  | _, _, _ => false
def eqB (P : Program) : Nat → TypeId → Ty → Bool
  | 0, _, _ => false
  | d + 1, t, ty => match ty, P.underlying t with
    | .int k, some (.int k') => decide (k' = k)
    | .bool, some .bool => true
    | .str, some .string => true
    | .arr n e, some (.array n' el) => Nat.beq n' n && infB P el e && eqB P d el e
    | .pair a b, some (.struct F) => !P.stoodInHeld t && eqF P (eqB P d) F.toList (.pair a b) 0
    | _, _ => false
def eqT (P : Program) (G : Tab) (t : TypeId) : Bool := match tyOf G t with
  | some ty => eqB P 20 t ty && !P.eqGuardType P.depth t
  | none => false
def tabB (P : Program) (G : Tab) : Bool := (G.ty.all fun p => tyB P p.1 p.2) && (G.eq.all fun t => eqT P G t) && (G.one.all fun t => oneB P t)
structure TabOK (P : Program) (G : Tab) : Prop where
  chk : tabB P G = true
  mixed : P.follows .mixedOrders = true
theorem look_mem {α : Type} : ∀ {l : List (Nat × α)} {t : Nat} {x : α}, look l t = some x → (t, x) ∈ l
  | [], t, x, h => by cases h
  | (n, a) :: l, t, x, h => by
    unfold look at h
    split at h
    · rename_i hb
      simp only [Option.some.injEq] at h
      rw [Nat.eq_of_beq_eq_true hb, h]; simp
    · exact List.mem_cons_of_mem _ (look_mem h)
theorem memN_mem : ∀ {l : List Nat} {n : Nat}, memN n l = true → n ∈ l
  | [], n, h => by cases h
  | m :: l, n, h => by
    unfold memN at h
    split at h
    · rename_i hb; rw [Nat.eq_of_beq_eq_true hb]; simp
    · exact List.mem_cons_of_mem _ (memN_mem h)
section
variable {P : Program} {G : Tab} (hG : TabOK P G)
include hG
theorem TabOK.ty {t : TypeId} {x : TyE} (h : look G.ty t = some x) : tyB P t x = true := by
  have := hG.chk
  simp only [tabB, Bool.and_eq_true] at this
  exact List.all_eq_true.1 this.1.1 _ (look_mem h)
theorem TabOK.eq {t : TypeId} (h : hasEq G t = true) : eqT P G t = true := by
  have := hG.chk
  simp only [tabB, Bool.and_eq_true] at this
  obtain ⟨u, hu, hb⟩ := List.any_eq_true.1 h
  have he := Nat.eq_of_beq_eq_true hb
  subst he
  exact List.all_eq_true.1 this.1.2 _ hu
theorem TabOK.one {t : TypeId} (h : memN t G.one = true) : oneB P t = true := by
  have := hG.chk
  simp only [tabB, Bool.and_eq_true] at this
  exact List.all_eq_true.1 this.2 _ (memN_mem h)
end
structure Inf (P : Program) (t : TypeId) (ty : Ty) : Prop where
  info : ∃ i z, P.info? t = some i ∧ i.size = ty.size ∧ i.zero = some z ∧ z.cells.toList = ty.zcells
  pos : 0 < ty.size
  agg : ∀ w, (isAgg t).run P w = .ok ty.agg w
theorem run_aggB {P : Program} {t : TypeId} {b : Bool} (h : aggB (P.underlying t) = some b) (w : World) : (isAgg t).run P w = .ok b w := by
  cases hu : P.underlying t with
  | none => rw [hu] at h; cases h
  | some d =>
    rw [hu] at h
    unfold isAgg
    rw [Sem.run_bind, run_underlying hu w]
    cases d <;> simp only [aggB, Option.some.injEq] at h <;> subst h <;> rfl
theorem infB_spec {P : Program} {t : TypeId} {ty : Ty} (h : infB P t ty = true) : Inf P t ty := by
  unfold infB at h
  split at h
  case h_2 => cases h
  case h_1 i hi =>
    simp only [Bool.and_eq_true] at h
    obtain ⟨⟨⟨h1, h2⟩, h3⟩, h4⟩ := h
    split at h3
    case h_2 => cases h3
    case h_1 z hz =>
      split at h4
      case h_2 => cases h4
      case h_1 b hb =>
        exact ⟨⟨i, z, hi, Nat.eq_of_beq_eq_true h1, hz, zeqL_eq h3⟩, Nat.le_of_ble_eq_true h2, fun w => by rw [run_aggB hb w, beqB_eq h4]⟩
theorem Inf.size {P : Program} {t : TypeId} {ty : Ty} (h : Inf P t ty) (w : World) : (sizeOf t).run P w = .ok ty.size w := by
  obtain ⟨i, z, hi, hs, _⟩ := h.info
  simp [Go.sizeOf, typeInfo, hi, hs]
theorem bytesB_spec {P : Program} {t : TypeId} {b : Nat} (h : bytesB P t b = true) : ∃ i, P.info? t = some i ∧ i.bytes = b := by
  unfold bytesB at h
  split at h
  case h_1 i hi => exact ⟨i, hi, Nat.eq_of_beq_eq_true h⟩
  case h_2 => cases h
section
variable {P : Program} {t : TypeId} {x : TyE}
theorem tyB_inf (h : tyB P t x = true) : Inf P t x.t := by
  unfold tyB at h
  rw [Bool.and_eq_true] at h
  exact infB_spec h.1
theorem tyB_int {k : IntKind} (h : tyB P t x = true) (ht : x.t = .int k) : P.underlying t = some (.int k) := by
  unfold tyB at h
  rw [Bool.and_eq_true, ht] at h
  have h := h.2
  split at h <;> first | (rename_i h1 h2; cases h1; done) | (cases h; done) | skip
  rename_i h1 h2
  simp only [decide_eq_true_eq] at h
  cases h1
  rw [h2, h]
theorem tyB_bool (h : tyB P t x = true) (ht : x.t = .bool) : P.underlying t = some .bool := by
  unfold tyB at h
  rw [Bool.and_eq_true, ht] at h
  have h := h.2
  split at h <;> first | (rename_i h1 h2; cases h1; done) | (cases h; done) | skip
  rename_i h1 h2
  exact h2
theorem tyB_str (h : tyB P t x = true) (ht : x.t = .str) : P.underlying t = some .string := by
  unfold tyB at h
  rw [Bool.and_eq_true, ht] at h
  have h := h.2
  split at h <;> first | (rename_i h1 h2; cases h1; done) | (cases h; done) | skip
  rename_i h1 h2
  exact h2
theorem tyB_sl {e : Ty} (h : tyB P t x = true) (ht : x.t = .sl e) : P.underlying t = some (.slice x.nf) ∧ Inf P x.nf e ∧ bytesB P x.nf x.bytes = true := by
  unfold tyB at h
  rw [Bool.and_eq_true, ht] at h
  have h := h.2
  split at h <;> first | (rename_i h1 h2; cases h1; done) | (cases h; done) | skip
  rename_i h1 h2
  cases h1
  simp only [Bool.and_eq_true] at h
  obtain ⟨⟨g1, g2⟩, g3⟩ := h
  rw [Nat.eq_of_beq_eq_true g1]
  exact ⟨h2, infB_spec g2, g3⟩
theorem tyB_arr {n : Nat} {e : Ty} (h : tyB P t x = true) (ht : x.t = .arr n e) : ∃ el, P.underlying t = some (.array n el) ∧ Inf P el e := by
  unfold tyB at h
  rw [Bool.and_eq_true, ht] at h
  have h := h.2
  split at h <;> first | (rename_i h1 h2; cases h1; done) | (cases h; done) | skip
  rename_i n' el h1 h2
  cases h1
  simp only [Bool.and_eq_true] at h
  rw [← Nat.eq_of_beq_eq_true h.1]
  exact ⟨_, h2, infB_spec h.2⟩
theorem fldB_spec {P : Program} : ∀ {F : List Field} {t : Ty} {off i : Nat} {p : List Step} {u : Ty}, fldB P F t off = true → fpath F.length i t = some (p, u) →
    ∃ f, F[i]? = some f ∧ f.offset = off + offS p ∧ Inf P f.type u ∧ ∀ len, PathOK len p
  | [], t, off, i, p, u, h, _ => by simp [fldB] at h
  | [f], t, off, 0, p, u, h, hp => by
    simp only [fldB, Bool.and_eq_true] at h
    simp only [List.length_singleton, fpath, Option.some.injEq, Prod.mk.injEq] at hp
    obtain ⟨rfl, rfl⟩ := hp
    exact ⟨f, rfl, by rw [Nat.eq_of_beq_eq_true h.1]; simp [offS], infB_spec h.2, fun _ => trivial⟩
  | [f], t, off, i + 1, p, u, h, hp => by simp [fpath] at hp
  | f :: g :: l, .pair a b, off, 0, p, u, h, hp => by
    simp only [fldB, Bool.and_eq_true] at h
    simp only [List.length_cons, fpath, Option.some.injEq, Prod.mk.injEq] at hp
    obtain ⟨rfl, rfl⟩ := hp
    exact ⟨f, rfl, by rw [Nat.eq_of_beq_eq_true h.1.1]; simp [offS], infB_spec h.1.2, fun _ => by simp [PathOK]⟩
  | f :: g :: l, .pair a b, off, i + 1, p, u, h, hp => by
    simp only [fldB, Bool.and_eq_true] at h
    simp only [List.length_cons, fpath] at hp
    split at hp
    case h_2 => cases hp
    case h_1 p' u' hp' =>
      simp only [Option.some.injEq, Prod.mk.injEq] at hp
      obtain ⟨rfl, rfl⟩ := hp
      obtain ⟨f', h1, h2, h3, h4⟩ := fldB_spec (F := g :: l) h.2 hp'
      exact ⟨f', by simpa using h1, by rw [h2]; simp only [offS]; omega, h3, fun len => by simp only [PathOK]; exact h4 len⟩
  | f :: g :: l, .int _, off, i, p, u, h, _ => by simp [fldB] at h
  | f :: g :: l, .bool, off, i, p, u, h, _ => by simp [fldB] at h
  | f :: g :: l, .str, off, i, p, u, h, _ => by simp [fldB] at h
  | f :: g :: l, .arr _ _, off, i, p, u, h, _ => by simp [fldB] at h
  | f :: g :: l, .sl _, off, i, p, u, h, _ => by simp [fldB] at h
theorem tyB_fld {f : Nat} {p : List Step} {u : Ty} (h : tyB P t x = true) (hp : fpath x.nf f x.t = some (p, u)) (hs : ∃ F, P.underlying t = some (.struct F)) :
    ∃ (F : Array Field) (g : Field), P.underlying t = some (.struct F) ∧ F[f]? = some g ∧ g.offset = offS p ∧ Inf P g.type u ∧ ∀ len, PathOK len p := by
  obtain ⟨F, hF⟩ := hs
  unfold tyB at h
  rw [Bool.and_eq_true, hF] at h
  have h := h.2
  split at h <;> first | (rename_i h1 h2; cases h2; done) | (cases h; done) | skip
  rename_i a b F' h1 h2
  cases h2
  simp only [Bool.and_eq_true] at h
  rw [← Nat.eq_of_beq_eq_true h.1, h1] at hp
  obtain ⟨g, g1, g2, g3, g4⟩ := fldB_spec h.2 hp
  exact ⟨F, g, hF, by simpa using g1, by simpa using g2, g3, g4⟩
theorem tyB_pair {a b : Ty} (h : tyB P t x = true) (ht : x.t = .pair a b) : ∃ F, P.underlying t = some (.struct F) ∧ F.toList.length = x.nf ∧ fldB P F.toList (.pair a b) 0 = true := by
  unfold tyB at h
  rw [Bool.and_eq_true, ht] at h
  have h := h.2
  split at h <;> first | (rename_i h1 h2; cases h1; done) | (cases h; done) | skip
  rename_i a b F h1 h2
  cases h1
  simp only [Bool.and_eq_true] at h
  exact ⟨F, h2, Nat.eq_of_beq_eq_true h.1, h.2⟩
end
theorem sizeG_spec {P : Program} {G : Tab} (hG : TabOK P G) {t : TypeId} {n : Nat} (h : sizeG G t = some n) (w : World) : (sizeOf t).run P w = .ok n w := by
  unfold sizeG tyOf at h
  cases hl : look G.ty t with
  | some x =>
    rw [hl] at h
    simp only [Option.some.injEq] at h
    subst h
    exact (tyB_inf (hG.ty hl)).size w
  | none =>
    rw [hl] at h
    simp only at h
    split at h
    case h_2 => cases h
    case h_1 hm =>
      simp only [Option.some.injEq] at h
      subst h
      have := hG.one hm
      unfold oneB at this
      split at this
      case h_2 => cases this
      case h_1 i hi _ => simp [Go.sizeOf, typeInfo, hi, Nat.eq_of_beq_eq_true this]
theorem tyOf_look {G : Tab} {t : TypeId} {ty : Ty} (h : tyOf G t = some ty) : ∃ x, look G.ty t = some x ∧ x.t = ty := by
  unfold tyOf at h
  split at h
  case h_1 x hx => simp only [Option.some.injEq] at h; exact ⟨x, hx, h⟩
  case h_2 => cases h
end Go.Tv
namespace Go.Tv
open Go Go.RowKit
section
variable {c : Ctx}
theorem sat_one {v : TV} {y : Value} (h1 : isTup v = false) (h2 : aggT v = false) : sat c v y ↔ satC c v [y] := by simp only [sat, h1, satV, h2]
theorem sat_agg {v : TV} {y : Value} (h1 : isTup v = false) (h2 : aggT v = true) : sat c v y ↔ ∃ vs, y = .agg vs.toArray ∧ satC c v vs := by simp only [sat, h1, satV, h2]
theorem sat_int {s : Bool} {k : IntKind} {n : (Ty.int k).den} {y : Value} : sat c (.val s (.int k) n) y ↔ y = .int k n := by
  rw [sat_one rfl rfl]; simp only [satC, VS, List.cons.injEq, and_true]
theorem sat_bool {s : Bool} {n : Ty.bool.den} {y : Value} : sat c (.val s .bool n) y ↔ y = .bool n := by
  rw [sat_one rfl rfl]; simp only [satC, VS, List.cons.injEq, and_true]
theorem sat_str {s : Bool} {n : Ty.str.den} {y : Value} : sat c (.val s .str n) y ↔ y = .string n := by
  rw [sat_one rfl rfl]; simp only [satC, VS, List.cons.injEq, and_true]
theorem sat_nil {y : Value} : sat c .nil y ↔ y = .slice none 0 0 := by
  rw [sat_one rfl rfl]; simp only [satC, List.cons.injEq, and_true]
theorem sat_sl {s : Bool} {e : Ty} {l : (Ty.sl e).den} {y : Value} : sat c (.val s (.sl e) l) y ↔ ∃ a cap, y = .slice a (List.length l) cap ∧ List.length l ≤ cap ∧ List.length l ≤ maxLen ∧ slM c s (VS c s e) l a := by
  rw [sat_one rfl rfl]; simp only [satC, VS, List.cons.injEq, and_true]
theorem sat_fl {s : Bool} {e : Ty} {l : (Ty.sl e).den} {y : Value} : sat c (.fl s e l) y ↔ ∃ a, y = .slice a (List.length l) (List.length l) ∧ List.length l ≤ maxLen ∧ slM c s (VS c s e) l a := by
  rw [sat_one rfl rfl]; simp only [satC, List.cons.injEq, and_true]
theorem sat_ptr {nm : Nat} {p : List Step} {y : Value} : sat c (.ptr nm p) y ↔ ∃ b k ln, c.m nm = some b ∧ y = .pointer (some ⟨b, offS p, none⟩) ∧ c.L nm = some (k, ln) ∧ PathOK ln p := by
  rw [sat_one rfl rfl]; simp only [satC, List.cons.injEq, and_true]
theorem sat_rptr {s : Bool} {t : Ty} {x : t.den} {y : Value} : sat c (.rptr s t x) y ↔ ∃ b off us, y = .pointer (some ⟨b, off, none⟩) ∧ okB c s b ∧ VS c s t x us ∧ Mem c.w b off us := by
  rw [sat_one rfl rfl]; simp only [satC, List.cons.injEq, and_true]
theorem sat_own {nm : Nat} {y : Value} : sat c (.own nm) y ↔ ∃ k ln, c.L nm = some (k, ln) ∧ ownV c nm 0 ln y := by
  rw [sat_one rfl rfl]; simp only [satC, List.cons.injEq, and_true]
  constructor
  · rintro ⟨y', k, ln, rfl, h1, h2⟩; exact ⟨k, ln, h1, h2⟩
  · rintro ⟨k, ln, h1, h2⟩; exact ⟨y, k, ln, rfl, h1, h2⟩
theorem sat_ownp {nm off len : Nat} {y : Value} : sat c (.ownp nm off len) y ↔ ownV c nm off len y := by
  rw [sat_one rfl rfl]; simp only [satC, List.cons.injEq, and_true]
  constructor
  · rintro ⟨y', rfl, h2⟩; exact h2
  · intro h2; exact ⟨y, rfl, h2⟩
theorem sat_sv {nm n : Nat} {p : List Step} {e : Ty} {y : Value} : sat c (.sv nm p e n) y ↔ ∃ b k ln cap, c.m nm = some b ∧ y = .slice (some ⟨b, offS p, none⟩) n cap ∧ n ≤ cap ∧ n ≤ maxLen ∧ c.L nm = some (k, ln) ∧ PathOK ln p := by
  rw [sat_one rfl rfl]; simp only [satC, List.cons.injEq, and_true]
theorem sat_clo {f : FuncId} {caps : TV} {y : Value} : sat c (.clo f caps) y ↔ ∃ us, y = .func (.func f) #[] us.toArray ∧ satC c caps us := by
  rw [sat_one rfl rfl]; simp only [satC, List.cons.injEq, and_true]
theorem VS_bool {b : Ty.bool.den} : sat c (tB b) (.bool b) := sat_bool.2 rfl
theorem cv_sat (v : Value) : sat c (cv v) v := by
  unfold cv
  split
  · exact sat_int.2 rfl
  · exact sat_bool.2 rfl
  · exact sat_str.2 rfl
  · exact sat_nil.2 rfl
  · exact sat_any
end
def EvOK (c : Ctx) (e : Nat → TV) (a : Act) : Prop := ∀ x : Operand, sat c (evA e x) (a.eval x)
theorem evOK_of {c : Ctx} {e : Nat → TV} {a : Act} (h : ∀ t, sat c (e t) (a.tmps.getD t undef)) : EvOK c e a := fun x => by
  cases x with
  | tmp t => exact h t
  | const v => exact cv_sat v
  | func f => exact sat_clo.2 ⟨[], rfl, by simp only [satC]⟩
  | global g => exact sat_any
section
variable {P : Program} {G : Tab} (hG : TabOK P G) {c : Ctx}
theorem fitB_spec {t : Ty} {v : TV} (h : fitB t v = true) : sizeT v = t.size ∧ aggT v = t.agg := by
  simp only [fitB, Bool.and_eq_true] at h
  exact ⟨Nat.eq_of_beq_eq_true h.1, beqB_eq h.2⟩
include hG in
theorem fitG_spec {t : TypeId} {v : TV} (h : fitG G t v = true) : 0 < sizeT v ∧ ∀ w, (isAgg t).run P w = .ok (aggT v) w ∧ (sizeOf t).run P w = .ok (sizeT v) w := by
  unfold fitG at h
  split at h
  case h_1 ty hty =>
    obtain ⟨x, hx, rfl⟩ := tyOf_look hty
    obtain ⟨h1, h2⟩ := fitB_spec h
    have hi := tyB_inf (hG.ty hx)
    exact ⟨by rw [h1]; exact hi.pos, fun w => ⟨by rw [h2]; exact hi.agg w, by rw [h1]; exact hi.size w⟩⟩
  case h_2 =>
    simp only [Bool.and_eq_true] at h
    have h1 := Nat.eq_of_beq_eq_true h.1.2
    have h2 := beqB_eq h.2
    refine ⟨by omega, fun w => ?_⟩
    have := hG.one h.1.1
    unfold oneB at this
    split at this
    case h_2 => cases this
    case h_1 i hi ha => exact ⟨by rw [h2]; exact run_aggB ha w, by simp [Go.sizeOf, typeInfo, hi, Nat.eq_of_beq_eq_true this, h1]⟩
theorem add_plain (b o n : Nat) : Addr.add ⟨b, o, none⟩ n = ⟨b, o + n, none⟩ := Addr.add_lit b o n
theorem mem_of_row {w : World} {b : Nat} {cur : Array Value} {ty : TypeId} {fr : Nat × Nat} (h : w.heap[b]? = some (.cells cur ty fr)) (o n : Nat) : Mem w b o ((cur.toList.drop o).take n) := by
  intro q v hq
  rw [cell_of_row w b (o + q) cur ty fr h]
  rw [List.getElem?_take] at hq
  split at hq
  · rw [List.getElem?_drop] at hq; simpa using hq
  · cases hq
theorem Mem.sub {w : World} {b o : Nat} {vs : List Value} (h : Mem w b o vs) (i n : Nat) : Mem w b (o + i) ((vs.drop i).take n) := by
  intro q v hq
  rw [List.getElem?_take] at hq
  split at hq
  · rw [List.getElem?_drop] at hq
    have := h (i + q) v hq
    rwa [← Nat.add_assoc] at this
  · cases hq
theorem Mem.app {w : World} {b o : Nat} {vs us : List Value} (h : Mem w b o (vs ++ us)) : Mem w b o vs := by
  intro q v hq
  refine h q v ?_
  rw [List.getElem?_append_left (List.getElem?_eq_some_iff.1 hq).1]; exact hq
theorem run_load {t : TypeId} {v : TV} {b off : Nat} {us : List Value} (hagg : ∀ w, (isAgg t).run P w = .ok (aggT v) w) (hsz : ∀ w, (sizeOf t).run P w = .ok (sizeT v) w) (hpos : 0 < sizeT v)
    (hs : satC c v us) (hm : Mem c.w b off us) : ∃ y, sat c v y ∧ (loadVar t ⟨b, off, none⟩).run P c.w = .ok y c.w := by
  have hl := satC_len hs hpos
  have hof := sat_ofC hpos hs
  cases ha : aggT v with
  | true =>
    rw [ha] at hof
    refine ⟨_, hof, ?_⟩
    have := run_loadCells_list (P := P) c.w ⟨b, off, none⟩ us (fun q v hq => by rw [add_plain]; exact hm q v hq)
    rw [hl] at this
    simp [loadVar, Sem.run_bind, hagg, ha, hsz, this]
  | false =>
    rw [ha] at hof
    refine ⟨_, hof, ?_⟩
    have h0 : us[0]? = some (us.getD 0 undef) := by
      have : 0 < us.length := by omega
      rw [List.getD_eq_getElem?_getD, List.getElem?_eq_getElem this]; rfl
    have hc := hm 0 _ h0
    rw [Nat.add_zero] at hc
    simp [loadVar, Sem.run_bind, hagg, ha, hc]
theorem run_part {t : TypeId} {v : TV} {off : Nat} {vs : List Value} (hagg : ∀ w, (isAgg t).run P w = .ok (aggT v) w) (hsz : ∀ w, (sizeOf t).run P w = .ok (sizeT v) w) (hpos : 0 < sizeT v)
    (hs : satC c v ((vs.drop off).take (sizeT v))) (hle : off + sizeT v ≤ vs.length) (w : World) : ∃ y, sat c v y ∧ (part t vs.toArray off).run P w = .ok y w := by
  have hof := sat_ofC hpos hs
  cases ha : aggT v with
  | true =>
    rw [ha] at hof
    exact ⟨_, hof, by simp [part, Sem.run_bind, hagg, ha, hsz, List.extract_toArray, List.extract_eq_take_drop]⟩
  | false =>
    rw [ha] at hof
    refine ⟨_, hof, ?_⟩
    have h0 : vs[off]? = some (((vs.drop off).take (sizeT v)).getD 0 undef) := by
      rw [List.getD_eq_getElem?_getD, List.getElem?_take, if_pos hpos, List.getElem?_drop, Nat.add_zero, List.getElem?_eq_getElem (by omega)]; rfl
    simp [part, Sem.run_bind, hagg, ha, h0]
theorem gl_get {α : Type} (d : α) (l : List α) (i : Nat) (h : i < l.length) : l[i]? = some (gl d l i) := by
  rw [gl, List.getD_eq_getElem?_getD, List.getElem?_eq_getElem h]; rfl
theorem getO_sound {nm b k ln : Nat} {o : TObj} {p : List Step} {v : TV} (ho : objOK c nm o) (hb : c.m nm = some b) (hL : c.L nm = some (k, ln)) (hp : PathOK ln p) (hg : getO o p = some v) :
    ∃ cur ty fr, c.w.heap[b]? = some (.cells cur ty fr) ∧ satC c v ((cur.toList.drop (offS p)).take (sizeT v)) ∧ offS p + sizeT v ≤ cur.size := by
  cases o with
  | var ty x =>
    simp only [getO] at hg
    obtain ⟨h0, b', cur, fr, h1, h2, h3, h4, h5⟩ := ho
    rw [hb] at h1; injection h1 with h1; subst h1
    obtain ⟨k1, k2⟩ := getP_sound hg h4 (by simpa using h5) hp
    exact ⟨cur, ty, fr, h2, k1, by simpa using k2⟩
  | rows ty s e l =>
    unfold getO at hg
    split at hg
    case h_1 heq => cases heq
    case h_3 => cases hg
    case h_2 ty' s' e' l' i k' p' heq =>
      cases heq
      split at hg
      case h_2 => cases hg
      case h_1 hk =>
        have hk := Nat.eq_of_beq_eq_true hk
        subst hk
        obtain ⟨h0, h⟩ := ho
        rw [hL] at h0
        simp only [Option.some.injEq, Prod.mk.injEq] at h0
        obtain ⟨rfl, rfl⟩ := h0
        rcases h with ⟨h1, _⟩ | ⟨b', cur, fr, cap, us, rest, h1, h2, h3, h4, h5, h6, h7, h8⟩
        · rw [hb] at h1; cases h1
        · rw [hb] at h1; injection h1 with h1; subst h1
          simp only [PathOK] at hp
          have hr := rowsS_get (k := e.size) (fun _ _ => VS_len) h8 (gl_get e.zero (α := e.den) l i hp.1)
          obtain ⟨k1, k2⟩ := getP_sound hg (satC_mkv hr.1) (VS_len hr.1) hp.2
          have hl := VS_len hr.1
          rw [hl] at k2
          have hcl : cur.size = us.length + rest.length := by
            have := congrArg List.length h7; simpa using this
          refine ⟨cur, ty, fr, h2, ?_, by simp only [offS]; omega⟩
          rw [h7]
          simp only [offS]
          rw [List.drop_take, List.take_take, List.drop_drop, Nat.min_eq_left (by omega)] at k1
          rw [sub_left (by omega)]
          exact k1
end
end Go.Tv
