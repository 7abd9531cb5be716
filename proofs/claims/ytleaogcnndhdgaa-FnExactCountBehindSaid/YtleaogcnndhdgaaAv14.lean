/- A part of the proof that a law of the seat holds: ZAv14. -/
import Derived.Test.YtleaogcnndhdgaaAv13
namespace Go.Av
open Go Go.RowKit

/-! ### what an operation does to the state, told once for every state that agrees on what it reads -/
def Sub (ob ob' : Nat → Option AObj) : Prop := ∀ nm o, ob nm = some o → ob' nm = some o

section
variable {P : Program} (G : Sg P)

theorem ixA_mono {ob ob' : Nat → Option AObj} (hs : Sub ob ob') {t : TypeId} {x i av : AV} (h : ixA G t ob x i = some av) : ixA G t ob' x i = some av := by
  cases x
  case ptr nm s j =>
    cases ho : ob nm with
    | some o => simp only [ixA, ho, hs nm o ho] at h ⊢; exact h
    | none =>
      unfold ixA at h ⊢
      split at h
      case h_2 => cases h
      case h_1 =>
        split at h
        case h_1 => cases h
        case h_2 f hf =>
          simp only [hf] at h ⊢
          split at h
          case h_1 => exact h
          case h_2 => 
            split at h
            case isTrue h1 => simp only [h1, if_true]; exact h
            case isFalse h1 => simp only [ho] at h; cases h
          case h_3 => exact h
  case sl nm off len =>
    cases ho : ob nm with
    | some o => simp only [ixA, ho, hs nm o ho] at h ⊢; exact h
    | none =>
      unfold ixA at h ⊢
      split at h
      case h_2 => cases h
      case h_1 =>
        split at h
        case h_1 => cases h
        case h_2 f hf =>
          simp only [hf] at h ⊢
          split at h
          case h_1 => simp [ho] at h
          case h_2 => exact h
          case h_3 => exact h
  all_goals exact h

theorem faA_mono {ob ob' : Nat → Option AObj} (hs : Sub ob ob') {t : TypeId} {x av : AV} {f : Nat} (h : faA G t ob x f = some av) : faA G t ob' x f = some av := by
  cases x
  case ptr nm s j =>
    cases ho : ob nm with
    | some o => simp only [faA, ho, hs nm o ho] at h ⊢; exact h
    | none =>
      unfold faA at h
      split at h
      case h_1 => cases h
      case h_2 => simp [ho] at h
  all_goals exact h

theorem slA_mono {ob ob' : Nat → Option AObj} (hs : Sub ob ob') {t : TypeId} {x av : AV} {lo hi mx : Option AV} (h : slA G t ob x lo hi mx = some av) : slA G t ob' x lo hi mx = some av := by
  unfold slA at h ⊢
  cases hf : G.TF t with
  | none => simp [hf] at h
  | some f =>
    simp only [hf] at h ⊢
    cases x
    case sl nm off len =>
      cases hk : f.kind with
      | slice e =>
        simp only [hk] at h ⊢
        cases mx with
        | some _ => simp at h
        | none =>
          simp only at h ⊢
          cases ho : ob nm with
          | some o => rw [hs nm o ho]; rw [ho] at h; exact h
          | none =>
            rw [ho] at h
            split at h
            case h_1 => simp at h
            case h_2 => cases h
      | _ => simp [hk] at h
    case v y => cases y <;> cases hk : f.kind <;> simp only [hk] at h ⊢ <;> exact h
    all_goals (cases hk : f.kind <;> simp only [hk] at h ⊢ <;> exact h)

theorem cvA_mono {ob ob' : Nat → Option AObj} (hs : Sub ob ob') {s d : TypeId} {x av : AV} (h : cvA G s d ob x = some av) : cvA G s d ob' x = some av := by
  unfold cvA at h ⊢
  split at h
  case h_1 => exact h
  case h_2 => exact h
  case h_3 => exact h
  case h_4 e nm off len h1 h2 =>
    cases ho : ob nm with
    | some o => rw [hs nm o ho]; rw [ho] at h; exact h
    | none => simp [ho] at h
  case h_5 => cases h

def opEnv (op : Op) (e e' : Nat → AV) : Prop := ∀ x ∈ op.operands.toList, evA e' x = evA e x

theorem map_evA {e e' : Nat → AV} {l : List Operand} (h : ∀ x ∈ l, evA e' x = evA e x) : l.map (evA e') = l.map (evA e) := List.map_congr_left h

theorem pval_mono {ob ob' : Nat → Option AObj} (hs : Sub ob ob') {op : Op} {e e' : Nat → AV} (he : opEnv op e e') {av : AV} (h : pval G op e ob = some av) : pval G op e' ob' = some av := by
  unfold opEnv at he
  cases op <;> simp only [Op.operands, List.mem_cons, List.not_mem_nil, or_false, forall_eq_or_imp, forall_eq, Array.toList_append, List.mem_append] at he
  case call c =>
    simp only [pval] at h ⊢
    split at h
    case h_1 x t h1 h2 h3 =>
      rw [he x (by simp only [Call.operands, h2, Array.toList_append, List.mem_append, List.mem_singleton]; exact .inr trivial)]; exact h
    case h_4 => cases h
    all_goals (rw [map_evA (e := e) (e' := e') fun x hx => he x (by simp only [Call.operands, Array.toList_append, List.mem_append]; exact .inr hx)]; exact h)
  case build t ps =>
    have : (ps.toList.map fun p => (p.1, evA e' p.2)) = ps.toList.map fun p => (p.1, evA e p.2) := List.map_congr_left fun p hp => by
      rw [he p.2 (by simp; exact ⟨p.1, by simpa using hp⟩)]
    simp only [pval] at h ⊢; rw [this]; exact h
  case makeFunc fn first caps =>
    have : caps.toList.map (evA e') = caps.toList.map (evA e) := map_evA fun x hx => he x (.inr hx)
    cases fn <;> simp only [pval] at h ⊢ <;> first | exact h | (rw [this]; exact h)
  case slice t x lo hi mx =>
    have e1 : ∀ o : Option Operand, (∀ y, o = some y → evA e' y = evA e y) → o.map (evA e') = o.map (evA e) := by
      intro o h; cases o with
      | none => rfl
      | some y => simp [h y rfl]
    simp only [pval] at h ⊢
    have hx : evA e' x = evA e x := he x (by simp)
    have hlo := e1 lo (fun y hy => he y (by simp [hy]))
    have hhi := e1 hi (fun y hy => he y (by simp [hy]))
    have hmx := e1 mx (fun y hy => he y (by simp [hy]))
    rw [hx, hlo, hhi, hmx]
    exact slA_mono G hs h
  case load t x =>
    simp only [pval] at h ⊢
    rw [he]
    split at h
    case h_1 nm s j hx =>
      cases ho : ob nm with
      | none => rw [ho] at h; cases h
      | some o => simp only [ho, hs nm o ho] at h ⊢; exact h
    case h_2 hx => exact h
    case h_3 => cases h
  case fieldAddr t x f => simp only [pval] at h ⊢; rw [he]; exact faA_mono G hs h
  case indexAddr t x i => simp only [pval] at h ⊢; rw [he.1, he.2]; exact ixA_mono G hs h
  case convert s d x => simp only [pval] at h ⊢; rw [he]; exact cvA_mono G hs h
  case pick c a b => simp only [pval] at h ⊢; rw [he.1, he.2.1, he.2.2]; exact h
  case move x => simp only [pval] at h ⊢; rw [he]; exact h
  case assign x => simp only [pval] at h ⊢; rw [he]; exact h
  case nilCheck x => simp only [pval] at h ⊢; rw [he]; exact h
  case binOp op t x y t' => simp only [pval] at h ⊢; rw [he.1, he.2]; exact h
  case unOp op t x => simp only [pval] at h ⊢; rw [he]; exact h
  case field t x f => simp only [pval] at h ⊢; rw [he]; exact h
  case index t x i => simp only [pval] at h ⊢; rw [he.1, he.2]; exact h
  case extract x n => simp only [pval] at h ⊢; rw [he]; exact h
  case sliceToArrayPointer t x => simp only [pval] at h ⊢; rw [he]; exact h
  all_goals (simp only [pval] at h; cases h)

theorem newA_mono {op : Op} {e e' : Nat → AV} (he : opEnv op e e') {nm : Nat} {r : AV × AObj} (h : newA G op e nm = some r) : newA G op e' nm = some r := by
  unfold opEnv at he
  cases op <;> simp only [Op.operands, List.mem_cons, List.not_mem_nil, or_false, forall_eq_or_imp, forall_eq, Array.toList_append, List.mem_append] at he
  case alloc t => exact h
  case box t x => simp only [newA] at h ⊢; rw [he]; exact h
  case buildSlice t n ps =>
    have : (ps.toList.map fun p => (p.1, evA e' p.2)) = ps.toList.map fun p => (p.1, evA e p.2) := List.map_congr_left fun p hp => by
      rw [he p.2 (by simp; exact ⟨p.1, by simpa using hp⟩)]
    simp only [newA] at h ⊢; rw [this]; exact h
  case makeSlice t l c => simp only [newA] at h ⊢; rw [he.1, he.2]; exact h
  case convert s d x => simp only [newA] at h ⊢; rw [he]; exact h
  all_goals (simp only [newA] at h; cases h)

theorem srcA_mono {ob ob' : Nat → Option AObj} (hs : Sub ob ob') {k : Nat} {y : AV} {r : List (List AV)} (h : srcA k ob y = some r) : srcA k ob' y = some r := by
  cases y
  case sl nm off len =>
    cases ho : ob nm with
    | some o => simp only [srcA, ho, hs nm o ho] at h ⊢; exact h
    | none => simp only [srcA, ho] at h; cases h
  case sv nm s off len =>
    cases ho : ob nm with
    | some o => simp only [srcA, ho, hs nm o ho] at h ⊢; exact h
    | none => simp only [srcA, ho] at h; cases h
  all_goals exact h

theorem appA_mono {ob ob' : Nat → Option AObj} (hs : Sub ob ob') {t : TypeId} {x y : AV} {r : Option Nat × Nat × AObj} (h : appA G t ob x y = some r) : appA G t ob' x y = some r := by
  unfold appA at h ⊢
  split at h
  case h_2 => cases h
  case h_1 el hk =>
    split at h
    case h_2 => cases h
    case h_1 f hf =>
      split at h
      case h_2 => cases h
      case h_1 src hsrc =>
        rw [srcA_mono hs hsrc]
        dsimp only at h ⊢
        split at h
        case h_1 => exact h
        case h_2 nm len =>
          split at h
          case h_2 => cases h
          case h_1 o ho => rw [hs nm o ho]; exact h
        case h_3 => cases h

structure Dlt where
  dst : Option Tmp
  av : AV
  ups : List (Nat × Option AObj)

def setAll (ob : Nat → Option AObj) : List (Nat × Option AObj) → (Nat → Option AObj)
  | [] => ob
  | (n, o) :: l => upd (setAll ob l) n o

def St.app (st : St) (d : Dlt) : St := St.put { st with objs := setAll st.objs d.ups } d.dst d.av

/-- the names n0 .. n0 + k - 1 are given away -/
def Stp (P : Program) (o : Oper) (n0 k : Nat) (e : Nat → AV) (ob : Nat → Option AObj) (d : Dlt) : Prop :=
  ∀ {B : Base} {F : Nat → Prop} {st : St} {m : Nat → Option Nat} {L : Nat → Lay} {a : Act} {w : World}, Rep B F st m L a w → (∀ x, n0 ≤ x → x < n0 + k → F x) →
    opEnv o.op e st.env → Sub ob st.objs → (∀ t, o.dst = some t → t < B.nt) → ∀ Q,
    o.wp P a w (fun a' w' => ∃ m' L', Rep B (fun x => F x ∧ ¬ (n0 ≤ x ∧ x < n0 + k)) (st.app d) m' L' a' w') Q

variable {G}

theorem Stp.pure {o : Oper} {e : Nat → AV} {ob : Nat → Option AObj} {av : AV} (n0 : Nat) (h : pval G o.op e ob = some av) : Stp P o n0 0 e ob ⟨o.dst, av, []⟩ := by
  intro B F st m L a w hr _ he ho hd Q
  obtain ⟨y, hy, hrun⟩ := pval_sound (G := G) hr o (pval_mono G ho he h)
  unfold Oper.wp
  rw [hrun w (Same.refl w), Oper.upon_value]
  exact ⟨m, L, (hr.put hd hy).weakF fun x hx => hx.1⟩

theorem Stp.new {o : Oper} {e : Nat → AV} {ob : Nat → Option AObj} {av : AV} {obj : AObj} {n0 : Nat} (h : newA G o.op e n0 = some (av, obj)) : Stp P o n0 1 e ob ⟨o.dst, av, [(n0, some obj)]⟩ := by
  intro B F st m L a w hr hF he ho hd Q
  obtain ⟨y, w', m', L', hrun, hr', hs⟩ := new_sound (G := G) hr o (hF n0 (by omega) (by omega)) (newA_mono G he h)
  unfold Oper.wp
  rw [hrun, Oper.upon_value]
  exact ⟨m', L', (hr'.put hd hs).weakF fun x hx => ⟨hx.1, fun hxx => hx.2 (by omega)⟩⟩

theorem stA_mono {t : TypeId} {e : Nat → AV} {ob : Nat → Option AObj} {st : St} {n : Nat} (hs : Sub ob st.objs) {x v : AV} {r : Nat × AObj} (h : stA G t ⟨e, ob, n⟩ x v = some r) : stA G t st x v = some r := by
  unfold stA at h ⊢
  split at h
  case h_2 => cases h
  case h_1 nm s j =>
    cases ho : ob nm with
    | none => simp only [ho] at h; cases h
    | some o => simp only [ho, hs nm o ho] at h ⊢; exact h

theorem Stp.store {o : Oper} {e : Nat → AV} {ob : Nat → Option AObj} (n0 : Nat) {t : TypeId} {x v : Operand} (ho : o.op = .store t x v) {nm : Nat} {o' : AObj} (h : stA G t ⟨e, ob, 0⟩ (evA e x) (evA e v) = some (nm, o')) :
    Stp P o n0 0 e ob ⟨o.dst, .any, [(nm, some o')]⟩ := by
  intro B F st m L a w hr _ he hob hd Q
  have hx : evA st.env x = evA e x := he x (by simp [ho, Op.operands])
  have hv : evA st.env v = evA e v := he v (by simp [ho, Op.operands])
  rw [← hx, ← hv] at h
  obtain ⟨w', hrun, hr'⟩ := st_sound (G := G) hr (evA_sat hr x) (evA_sat hr v) (stA_mono hob h)
  unfold Oper.wp execOp
  simp only [ho, Sem.run_bind, hrun, Sem.run_pure]
  exact ⟨m, L, (hr'.put hd (av := .any) (y := undef) (by simp only [sat])).weakF fun x hx => hx.1⟩
end
end Go.Av
