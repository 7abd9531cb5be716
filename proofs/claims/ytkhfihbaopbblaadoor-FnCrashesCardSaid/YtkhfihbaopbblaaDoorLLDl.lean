/- Plain laws: LDl. -/
import Derived.Test.YtkhfihbaopbblaaDoorLR14
import Derived.Test.YtkhfihbaopbblaaDoorLR18
import Derived.Test.YtkhfihbaopbblaaDoorLR34
import Derived.Test.YtkhfihbaopbblaaDoorLR25
set_option linter.unusedVariables false
set_option linter.unusedSimpArgs false
namespace Go.Pl
open Go Go.Tv Go.RowKit
theorem ssub_size (s : ByteArray) (lo hi : Nat) : (ssub s lo hi).size = min (hi - lo) (s.size - lo) := by
  rw [← bl_len, bl_ssub, List.length_take, List.length_drop, bl_len]
def RecS (e : Rec) : Prop := e.1.size ≤ 10 ∧ e.2.size ≤ 10
theorem logRecord_ok (n : Nat) {m : Nat} {c : Cu} (h : CuOK m c) (hm : m < 4611686018427387000) : ∃ e c', s_Cur_logRecord'p n c = some (e, c') ∧ CuOK (m + 8) c' ∧ RecS e := by
  unfold s_Cur_logRecord'p
  obtain ⟨r, c1, e1, h1, hr⟩ := of_ok n h (by omega) (l := [(⟨#[108, 105, 110, 101, 115]⟩ : ByteArray), (⟨#[112, 117, 116, 32, 52, 48]⟩ : ByteArray), (⟨#[120]⟩ : ByteArray), (⟨#[116, 97, 107, 101, 32, 48, 32, 49, 32, 50]⟩ : ByteArray), (⟨#[48, 32, 49]⟩ : ByteArray)]) (by simp)
  obtain ⟨q, c2, e2, h2, hq⟩ := of_ok n h1 (by omega) (l := [(⟨#[]⟩ : ByteArray), (⟨#[51]⟩ : ByteArray), (⟨#[63]⟩ : ByteArray), (⟨#[97, 64, 98]⟩ : ByteArray), (⟨#[51, 32, 49, 32, 50]⟩ : ByteArray)]) (by simp)
  obtain ⟨z, c3, e3, h3, _, _⟩ := pick_ok n h2 (by omega) (a := 24) (by omega)
  have hr' : r.size ≤ 10 := by
    simp only [List.mem_cons, List.mem_nil_iff, or_false] at hr
    rcases hr with rfl | rfl | rfl | rfl | rfl <;> decide
  have hq' : q.size ≤ 10 := by
    simp only [List.mem_cons, List.mem_nil_iff, or_false] at hq
    rcases hq with rfl | rfl | rfl | rfl | rfl <;> decide
  rw [e1, ob_some, e2, ob_some, lt_eq, e3, ob_some]
  dsimp only
  by_cases hz0 : z = 0
  · rw [decide_eq_true hz0, br_true, ckb_pos (mkok_ok (by omega) (by omega) (by omega) (by omega)), lt_eq]
    obtain ⟨x, c4, e4, h4, hx⟩ := of_ok n h3 (by omega) (l := [(⟨#[]⟩ : ByteArray), (⟨#[97, 64, 98]⟩ : ByteArray), (⟨#[97, 35]⟩ : ByteArray), (⟨#[10]⟩ : ByteArray), strOfNums (List.replicate 3 0)]) (by simp)
    rw [e4, ob_some, lt_eq]
    refine ⟨_, _, rfl, h4, ?_, hq'⟩
    change x.size ≤ 10
    simp only [List.mem_cons, List.mem_nil_iff, or_false] at hx
    rcases hx with rfl | rfl | rfl | rfl | rfl <;> decide
  rw [decide_eq_false hz0, br_false]
  by_cases hz1 : z = 1
  · rw [decide_eq_true hz1, br_true]
    obtain ⟨x, c4, e4, h4, hx⟩ := of_ok n h3 (by omega) (l := [(⟨#[35]⟩ : ByteArray), (⟨#[10]⟩ : ByteArray), (⟨#[127]⟩ : ByteArray)]) (by simp)
    rw [e4, ob_some, lt_eq]
    refine ⟨_, _, rfl, h4, hr', ?_⟩
    change x.size ≤ 10
    simp only [List.mem_cons, List.mem_nil_iff, or_false] at hx
    rcases hx with rfl | rfl | rfl <;> decide
  · rw [decide_eq_false hz1, br_false]
    exact ⟨_, _, rfl, h3.mono (by omega), hr', hq'⟩
def lgN (l : Lg) : Nat := l.1.size + l.2.1.size
theorem line_len2 {k : Int} (k0 : 0 ≤ k) (k1 : k ≤ 59) (e : Rec) : (lineL k (bl e.1) (bl e.2)).length ≤ e.1.size + e.2.size + 17 := by
  have h6 := num_len6 k0 (by omega)
  have hs := seal_len (numL k ++ 32 :: (bl e.1 ++ 64 :: bl e.2))
  unfold lineL
  simp only [List.length_append, List.length_cons, List.length_nil, bl_len] at hs ⊢
  omega
theorem appd_size (l : Lg) (e : Rec) : lgN (appd l e).1 ≤ lgN l + (e.1.size + e.2.size + 17) := by
  unfold appd lgN
  split
  · dsimp only; omega
  · rename_i h
    split
    · dsimp only; omega
    · rename_i h60
      have h' : logB l = true ∧ recB e = true := Decidable.byContradiction h
      obtain ⟨c0, c1⟩ := log_count h'.1
      have := line_len2 c0 (by omega) e
      show l.1.size + (l.2.1 ++ mk (lineL l.2.2 (bl e.1) (bl e.2))).size ≤ _
      rw [app_size, mk_size]; omega
theorem sync_size (l : Lg) : lgN (sync l).1 ≤ lgN l := by
  unfold sync lgN
  split
  · show (l.1 ++ l.2.1).size + 0 ≤ _
    rw [app_size]; omega
  · show 0 + 0 ≤ _
    omega
theorem log12_R {n : Nat} (hn : BIG ≤ n) (z : Lg) : ∀ (d : Nat) (m : Nat) (c : Cu) (l : Lg) (b : Nat) (fu : Nat), d ≤ 10 → CuOK m c → m + 10 * d < 4611686018427380000 → lgN l ≤ b → b + 40 * d ≤ 100000 → d < fu →
    ∃ l' c', fx (s_Cur_log12'p_L1 n) fu ((d : Int), c, z, l) = some (l', c') ∧ CuOK (m + 10 * d) c' ∧ lgN l' ≤ b + 40 * d := by
  intro d
  induction d with
  | zero =>
    intro m c l b fu hd hc hm hl hb hf
    obtain ⟨fu, rfl⟩ : ∃ j, fu = j + 1 := ⟨fu - 1, by omega⟩
    rw [fx_succ]
    generalize fx (s_Cur_log12'p_L1 n) fu = g
    unfold s_Cur_log12'p_L1
    dsimp only
    rw [decide_eq_false (by omega), br_false]
    exact ⟨_, _, rfl, hc, by omega⟩
  | succ d ih =>
    intro m c l b fu hd hc hm hl hb hf
    obtain ⟨fu, rfl⟩ : ∃ j, fu = j + 1 := ⟨fu - 1, by omega⟩
    rw [fx_succ]
    obtain ⟨e, c1, e1, h1, he⟩ := logRecord_ok n hc (by omega)
    obtain ⟨o, c2, e2, h2⟩ := one_ok n h1 (by omega) (a := 4) (by omega)
    have ha := appd_size l e
    obtain ⟨q1, q2⟩ := he
    have hlN : l.1.size + l.2.1.size ≤ 1048576 := by unfold lgN at hl; omega
    have H := fun l' hl' => ih (m + 10) c2 l' (b + 40) fu (by omega) h2 (by omega) hl' (by omega) (by omega)
    generalize fx (s_Cur_log12'p_L1 n) fu = g at H
    unfold s_Cur_log12'p_L1
    dsimp only
    have ew : w64 (((d + 1 : Nat) : Int) - 1) = (d : Int) := by rw [w64_id (by omega)]; omega
    rw [decide_eq_true (by omega), br_true, e1, ob_some]
    dsimp only
    rw [s_AppendRecord_eq hn hlN (by omega) (by omega), ob_some, e2, ob_some]
    dsimp only
    cases o with
    | true =>
      have hs := sync_size (appd l e).1
      have hlN2 : (appd l e).1.1.size + (appd l e).1.2.1.size ≤ 1048576 := by unfold lgN at ha hl; omega
      rw [br_true, s_SyncLog_eq hn hlN2, ob_some, ew, lt_eq]
      obtain ⟨l', c', r1, r2, r3⟩ := H (sync (appd l e).1).1 (by omega)
      exact ⟨l', c', r1, r2.mono (by omega), by omega⟩
    | false =>
      rw [br_false, ew, lt_eq]
      obtain ⟨l', c', r1, r2, r3⟩ := H (appd l e).1 (by omega)
      exact ⟨l', c', r1, r2.mono (by omega), by omega⟩
theorem log12_ok {n : Nat} (hn : BIG ≤ n) {m : Nat} {c : Cu} (h : CuOK m c) (hm : m < 4611686018427370000) : ∃ l c', s_Cur_log12'p n c = some (l, c') ∧ CuOK (m + 100) c' ∧ lgN l ≤ 300 := by
  unfold s_Cur_log12'p
  obtain ⟨r, c1, e1, h1, hr0, hr1⟩ := pick_ok n h (by omega) (a := 7) (by omega)
  rw [lt_eq, e1, ob_some]
  obtain ⟨k, rfl⟩ : ∃ k : Nat, r = (k : Int) := ⟨r.toNat, by omega⟩
  obtain ⟨l, c2, e2, h2, h3⟩ := log12_R hn (⟨#[]⟩, (⟨#[]⟩, 0)) k (m + 2) c1 (⟨#[]⟩, (⟨#[]⟩, 0)) 0 n (by omega) h1 (by omega) (by show 0 + 0 ≤ 0; omega) (by omega) (big_gt hn (by omega))
  exact ⟨l, c2, e2, h2.mono (by omega), by omega⟩
theorem spoilt_ok (n : Nat) {m : Nat} {c : Cu} (h : CuOK m c) (hm : m < 4611686018427370000) {s w : ByteArray} (hs : s.size ≤ 100000) (hw : 1 ≤ w.size) (hw2 : w.size ≤ 100) : ∃ r c', s_Cur_spoilt'p n s w c = some (r, c') ∧ CuOK (m + 10) c' ∧ r.size ≤ s.size + 1 := by
  unfold s_Cur_spoilt'p
  by_cases h0 : s = ⟨#[]⟩
  · rw [eqd_str, decide_eq_true h0, br_true, ckb_pos (slb_ok (by omega) (by omega) (by omega))]
    exact ⟨_, _, rfl, h.mono (by omega), by rw [ssub_size]; omega⟩
  have hs1 : 1 ≤ s.size := by
    refine Decidable.byContradiction fun hh => h0 (bl_inj ?_)
    have : (bl s).length = 0 := by rw [bl_len]; omega
    rw [List.eq_nil_of_length_eq_zero this]; rfl
  rw [eqd_str, decide_eq_false h0, br_false]
  obtain ⟨a, c1, e1, h1, a0, a1⟩ := pick_ok n h (by omega) (a := (s.size : Int)) (by omega)
  obtain ⟨b, c2, e2, h2, b0, b1⟩ := pick_ok n h1 (by omega) (a := (w.size : Int)) (by omega)
  obtain ⟨z, c3, e3, h3, _, _⟩ := pick_ok n h2 (by omega) (a := 3) (by omega)
  obtain ⟨i, rfl⟩ : ∃ k : Nat, a = (k : Int) := ⟨a.toNat, by omega⟩
  obtain ⟨j, rfl⟩ : ∃ k : Nat, b = (k : Int) := ⟨b.toNat, by omega⟩
  have z1 := ssub_size s 0 i
  have z2 := ssub_size (ssub w j w.size) 0 1
  have z3 := ssub_size w j w.size
  have z4 := ssub_size s i s.size
  have z5 := ssub_size s (i + 1) s.size
  rw [e1, ob_some, e2, ob_some, ckb_pos (slb_ok (by omega) (by omega) (by omega)), toNat_cast, ckb_pos (slb_ok (by omega) (by omega) (by omega)), e3, ob_some]
  dsimp only
  have ew : w64 ((i : Int) + 1) = ((i + 1 : Nat) : Int) := w64_succ (by omega)
  by_cases hz0 : z = 0
  · rw [decide_eq_true hz0, br_true, ckb_pos (slb_ok (by omega) (by omega) (by omega)), toNat_cast, ckb_pos (stok_ok (by omega)), lt_eq, ckb_pos (slb_ok (by omega) (by omega) (by omega)), ckb_pos (stok_ok (by rw [app_size]; omega)), lt_eq]
    exact ⟨_, _, rfl, h3.mono (by omega), by rw [app_size, app_size]; omega⟩
  rw [decide_eq_false hz0, br_false]
  by_cases hz1 : z = 1
  · rw [decide_eq_true hz1, br_true, ckb_pos (slb_ok (by omega) (by omega) (by omega)), toNat_cast, ckb_pos (stok_ok (by omega)), lt_eq, ew, lt_eq, ckb_pos (slb_ok (by omega) (by omega) (by omega)), toNat_cast, ckb_pos (stok_ok (by rw [app_size]; omega)), lt_eq]
    exact ⟨_, _, rfl, h3.mono (by omega), by rw [app_size, app_size]; omega⟩
  · rw [decide_eq_false hz1, br_false, ckb_pos (slb_ok (by omega) (by omega) (by omega)), ew, lt_eq, ckb_pos (slb_ok (by omega) (by omega) (by omega)), toNat_cast, toNat_cast, ckb_pos (stok_ok (by omega)), lt_eq]
    exact ⟨_, _, rfl, h3.mono (by omega), by rw [app_size]; omega⟩
theorem anyLog_ok {n : Nat} (hn : BIG ≤ n) {m : Nat} {c : Cu} (h : CuOK m c) (hm : m < 4611686018427360000) : ∃ l c', s_Cur_anyLog'p n c = some (l, c') ∧ CuOK (m + 200) c' ∧ lgN l ≤ 700 := by
  unfold s_Cur_anyLog'p
  obtain ⟨l, c1, e1, h1, hl⟩ := log12_ok hn h (by omega)
  obtain ⟨z, c2, e2, h2, _, _⟩ := pick_ok n h1 (by omega) (a := 24) (by omega)
  rw [e1, ob_some, e2, ob_some]
  dsimp only
  unfold lgN at hl ⊢
  by_cases hz0 : z = 0
  · rw [decide_eq_true hz0, br_true, lt_eq, lt_eq]
    exact ⟨_, _, rfl, h2.mono (by omega), by show l.1.size + l.2.1.size ≤ 700; omega⟩
  rw [decide_eq_false hz0, br_false]
  by_cases hz1 : z = 1
  · rw [decide_eq_true hz1, br_true]
    obtain ⟨r, c3, e3, h3, hr⟩ := spoilt_ok n h2 (by omega) (s := l.2.1) (w := (⟨#[35, 64, 10, 48, 49]⟩ : ByteArray)) (by omega) (by decide) (by decide)
    rw [e3, ob_some, lt_eq]
    exact ⟨_, _, rfl, h3.mono (by omega), by show l.1.size + r.size ≤ 700; omega⟩
  rw [decide_eq_false hz1, br_false]
  by_cases hz2 : z = 2
  · rw [decide_eq_true hz2, br_true, ckb_pos (stok_ok (by omega)), lt_eq, lt_eq]
    exact ⟨_, _, rfl, h2.mono (by omega), by show (l.1 ++ l.2.1).size + l.2.1.size ≤ 700; rw [app_size]; omega⟩
  · rw [decide_eq_false hz2, br_false]
    exact ⟨_, _, rfl, h2.mono (by omega), by show l.1.size + l.2.1.size ≤ 700; omega⟩
theorem DrawCrashLog_ok {n : Nat} (hn : BIG ≤ n) {a : List Int} (h : CuOK 0 (a, (0, 0))) : ∃ l k t, s_DrawCrashLog n a = some (l, k, t) ∧ lgN l ≤ 700 := by
  unfold s_DrawCrashLog
  obtain ⟨l, c1, e1, h1, hl⟩ := anyLog_ok hn h (by omega)
  have hlN : l.1.size + l.2.1.size ≤ 700 := hl
  have ew : w64 ((l.2.1.size : Int) + 3) = (l.2.1.size : Int) + 3 := w64_id (by omega)
  obtain ⟨r, c2, e2, h2, r0, r1⟩ := pick_ok n h1 (by omega) (a := (l.2.1.size : Int) + 3) (by omega)
  obtain ⟨o, c3, e3, h3⟩ := one_ok n h2 (by omega) (a := 2) (by omega)
  rw [lt_eq, e1, ob_some]
  dsimp only
  rw [ew, lt_eq, e2, ob_some, lt_eq, e3, ob_some]
  exact ⟨_, _, _, rfl, hl⟩
theorem DrawRecover_J1 (n : Nat) {m : Nat} {c : Cu} (h : CuOK m c) (hm : m < 4611686018427360000) {s : ByteArray} (hs : s.size ≤ 40000) : ∃ r, s_DrawRecoverLog_J1 n (s, c) = some r ∧ r.size ≤ 40000 := by
  unfold s_DrawRecoverLog_J1
  dsimp only
  obtain ⟨o, c1, e1, h1⟩ := one_ok n h (by omega) (a := 40) (by omega)
  rw [e1, ob_some]
  cases o with
  | true =>
    obtain ⟨r, c3, e3, h3, r0, r1⟩ := pick_ok n h1 (by omega) (a := 2) (by omega)
    rw [br_true, e3, ob_some, w64_id (by omega), lt_eq, ckb_pos (mkok_ok (by omega) (by omega) (by omega) (by omega)), lt_eq]
    exact ⟨_, rfl, by rw [strOfNums_size, List.length_replicate]; omega⟩
  | false => exact ⟨_, rfl, hs⟩
theorem DrawRecoverLog_ok {n : Nat} (hn : BIG ≤ n) {a : List Int} (h : CuOK 0 (a, (0, 0))) : ∃ r, s_DrawRecoverLog n a = some r ∧ r.size ≤ 40000 := by
  unfold s_DrawRecoverLog
  obtain ⟨l, c1, e1, h1, hl⟩ := log12_ok hn h (by omega)
  have hlN : l.1.size + l.2.1.size ≤ 300 := hl
  obtain ⟨z, c2, e2, h2, _, _⟩ := pick_ok n h1 (by omega) (a := 4) (by omega)
  have hx : (l.1 ++ l.2.1).size ≤ 300 := by rw [app_size]; omega
  rw [lt_eq, e1, ob_some]
  dsimp only
  rw [ckb_pos (stok_ok (by omega)), lt_eq, e2, ob_some]
  dsimp only
  generalize l.1 ++ l.2.1 = x at *
  by_cases hz0 : z = 0
  · rw [decide_eq_true hz0, br_true]
    obtain ⟨r, c3, e3, h3, hr⟩ := spoilt_ok n h2 (by omega) (s := x) (w := (⟨#[35, 64, 10, 48, 49]⟩ : ByteArray)) (by omega) (by decide) (by decide)
    rw [e3, ob_some]
    dsimp only
    exact DrawRecover_J1 n h3 (by omega) (by omega)
  rw [decide_eq_false hz0, br_false]
  by_cases hz1 : z = 1
  · rw [decide_eq_true hz1, br_true]
    have ew : w64 ((x.size : Int) + 1) = (x.size : Int) + 1 := w64_id (by omega)
    obtain ⟨r, c3, e3, h3, r0, r1⟩ := pick_ok n h2 (by omega) (a := (x.size : Int) + 1) (by omega)
    rw [ew, lt_eq, e3, ob_some, ckb_pos (slb_ok (by omega) (by omega) (by omega))]
    exact DrawRecover_J1 n h3 (by omega) (by rw [ssub_size]; omega)
  rw [decide_eq_false hz1, br_false]
  by_cases hz2 : z = 2
  · rw [decide_eq_true hz2, br_true]
    obtain ⟨r, c3, e3, h3, r0, r1⟩ := pick_ok n h2 (by omega) (a := 4) (by omega)
    obtain ⟨e, c4, e4, h4, he⟩ := logRecord_ok n h3 (by omega)
    have hll := line_len2 r0 (by omega) e
    obtain ⟨q1, q2⟩ := he
    rw [e3, ob_some, e4, ob_some]
    dsimp only
    rw [s_l12Line_eq hn r0 (by omega) (by omega) (by omega), ob_some, ckb_pos (stok_ok (by rw [mk_size]; omega)), lt_eq]
    exact DrawRecover_J1 n h4 (by omega) (by rw [app_size, mk_size]; omega)
  · rw [decide_eq_false hz2, br_false]
    exact DrawRecover_J1 n h2 (by omega) (by omega)
end Go.Pl
