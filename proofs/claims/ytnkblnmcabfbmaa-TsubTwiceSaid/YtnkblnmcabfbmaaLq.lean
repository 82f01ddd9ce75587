/- Levels put in the place of others. Conditions: none. -/
import Derived.Test.YtnkblnmcabfbmaaLp
set_option linter.unusedVariables false
set_option linter.unusedSimpArgs false
set_option maxRecDepth 100000
set_option maxHeartbeats 2000000
namespace Go.Ab
open Go.RowKit Go.Proofs

theorem css_snoc (a : List Lv) (x : Lv) : Lv.css a ++ [x.cs] = Lv.css (a ++ [x]) := by rw [css_app]; rfl
/-! ### What stands for a level -/
def byL (ps ms : List Lv) (k n : Int) : Option Lv := if k = 5 then ps[n.toNat]? else if k = 6 then ms[n.toNat]? else none
mutual
def subL (ps ms : List Lv) : Lv → Lv
  | .mk k n ks => match byL ps ms k n with
    | some x => x
    | none => .mk k n (subLs ps ms ks)
def subLs (ps ms : List Lv) : List Lv → List Lv
  | [] => []
  | x :: r => subL ps ms x :: subLs ps ms r
end
theorem subLs_eq (ps ms : List Lv) : ∀ ks : List Lv, subLs ps ms ks = ks.map (subL ps ms)
  | [] => rfl
  | x :: r => by rw [subLs, subLs_eq ps ms r]; rfl
theorem rightB_inv {p m k n : Int} {ks : List Lv} {d : Int} (h : rightB p m (.mk k n ks) d = true) : 1 ≤ d ∧ (ks.length : Int) = kids02 k ∧ 0 ≤ n ∧ (k = 5 → n < p) ∧ (k = 6 → n < m) ∧ (k ≠ 5 → k ≠ 6 → n = 0) ∧ rightsB p m ks (d - 1) = true := by
  rw [rightB] at h
  split at h
  · cases h
  split at h
  · cases h
  rename_i h1 h2
  have h2 : (ks.length : Int) = kids02 k := by simpa using h2
  split at h
  · rename_i h5
    subst h5
    have : ks = [] := List.eq_nil_of_length_eq_zero (by simp [kids02] at h2; simp [h2])
    subst this
    simp at h
    exact ⟨by omega, h2, h.1, fun _ => h.2, by omega, by omega, rfl⟩
  split at h
  · rename_i h5
    subst h5
    have : ks = [] := List.eq_nil_of_length_eq_zero (by simp [kids02] at h2; simp [h2])
    subst this
    simp at h
    exact ⟨by omega, h2, h.1, by omega, fun _ => h.2, by omega, rfl⟩
  · simp at h
    exact ⟨by omega, h2, by omega, by omega, by omega, fun _ _ => h.2, h.1⟩
theorem rightsB_at {p m : Int} {ks : List Lv} {d : Int} (h : rightsB p m ks d = true) {x : Lv} (hx : x ∈ ks) : rightB p m x d = true := by
  rw [rightsB_all, List.all_eq_true] at h; exact h x hx
theorem RightB_right {l : Lv} {p m : Int} (h : RightB l p m = true) : rightB p m l 12 = true := by
  unfold RightB at h; simp only [Bool.and_eq_true] at h; exact h.2
theorem kids02_le (k : Int) : kids02 k ≤ 2 := by unfold kids02; grind
def okLs (l : List Lv) : Prop := ∀ x ∈ l, x.ok
theorem byL_ok {ps ms : List Lv} (hp : okLs ps) (hm : okLs ms) {k n : Int} {x : Lv} (h : byL ps ms k n = some x) : x.ok := by
  unfold byL at h
  split at h
  · exact hp x (List.mem_of_getElem? h)
  · split at h
    · exact hm x (List.mem_of_getElem? h)
    · cases h
theorem subL_ok {ps ms : List Lv} (hp : okLs ps) (hm : okLs ms) (l : Lv) : l.ok → (subL ps ms l).ok := by
  induction l using Lv.ind with
  | h k n ks ih =>
  intro hl
  rw [subL]
  split
  · rename_i x h; exact byL_ok hp hm h
  · rw [subLs_eq]
    refine .mk (by simpa using hl.len) fun x hx => ?_
    obtain ⟨y, hy, rfl⟩ := List.mem_map.1 hx
    exact ih y hy (hl.all y hy)
/-- How Sub answers. -/
def resL : Lv × Int → AV
  | (l, e) => .tup [.agg l.cs, .int .i64 e]
def zeroL : Lv := .mk 0 0 []
def rightLs (l : List Lv) : Bool := l.all fun x => RightB x 5 10
def SubS (l : Lv) (ps ms : List Lv) : Lv × Int :=
  if RightB l 5 10 = false ∨ 5 < ps.length ∨ 10 < ms.length ∨ rightLs ps = false ∨ rightLs ms = false then (zeroL, 1)
  else if RightB (subL ps ms l) 5 10 then (subL ps ms l, 0) else (zeroL, 2)

/-! ### The document's functions -/
theorem right05_ok (xs : List Lv) (hlen : xs.length ≤ 140737488355328) (hx : okLs xs) (H : List AO) : F ref05_right [.sl (Lv.css xs)] H = some (.ret (.bool (rightLs xs)), H) := by
  have loop : ∀ (suf pre : List Lv), xs = pre ++ suf → L_ref05_right_0 H H (.sl (Lv.css xs)) (.int .i64 pre.length) = some (.ret (.bool (rightLs suf)), H) := by
    intro suf
    induction suf with
    | nil =>
      intro pre e
      subst e
      rw [L_ref05_right_0, awL_eq]
      simp only [↓reduceIte, go_sem, rightLs, List.all_nil]
    | cons x suf ih =>
      intro pre e
      subst e
      simp at hlen
      have := ih (pre ++ [x]) (by simp)
      simp only [len_app] at this
      have hr := Right02_ok x (hx x (by simp)) 5 10 H
      rw [L_ref05_right_0, awL_eq]
      unfold rightLs at *
      rw [List.all_cons]
      cases h : RightB x 5 10 <;> simp only [h] at hr <;> simp only [↓reduceIte, go_sem, hr, nat_wrap (n := pre.length) (by omega), this, Bool.true_and, Bool.false_and]
  have := loop xs [] rfl
  simp only [List.length_nil, Int.natCast_zero] at this
  rw [f_ref05_right]
  simp only [↓reduceIte, go_sem, this]

theorem sub05_ok (p m : Int) (ps ms : List Lv) (l : Lv) : l.ok → ∀ (d : Int), rightB p m l d = true → ∀ (H : List AO), F ref05_sub [.agg l.cs, .sl (Lv.css ps), .sl (Lv.css ms)] H = some (.ret (.agg (subL ps ms l).cs), H) := by
  induction l using Lv.ind with
  | h k n ks ih =>
  intro hl d hr H
  obtain ⟨hd, hk, hn, h5, h6, h0, hks⟩ := rightB_inv hr
  have hk3 := kids02_le k
  have loop : ∀ (suf pre done : List Lv), ks = pre ++ suf → done.length = pre.length →
      L_ref05_sub_0 H (H ++ [.lst 0 3 [], .lst done.length 3 (Lv.css done), .lst 0 3 []]) (.sl (Lv.css ps)) (.sl (Lv.css ms)) (.int .i64 pre.length) [.int .i64 k, .int .i64 n, .sl (Lv.css ks)]
        [.int .i64 0, .int .i64 0, .ol H.length 0] [.int .i64 k, .int .i64 n, .ol (H.length + 1) done.length] = some (.ret (.agg (Lv.mk k n (done ++ subLs ps ms suf)).cs), H) := by
    intro suf
    induction suf with
    | nil =>
      intro pre done e he
      subst e
      rw [L_ref05_sub_0, awL_eq]
      simp only [↓reduceIte, go_sem, subLs, Lv.cs]
    | cons x suf ih2 =>
      intro pre done e he
      subst e
      simp at hk
      have := ih2 (pre ++ [x]) (done ++ [subL ps ms x]) (by simp) (by simp [he])
      simp only [len_app] at this
      simp only [len_snoc, List.append_assoc, List.cons_append, List.nil_append] at this
      have hdl : done.length ≤ 1073741823 := by omega
      rw [L_ref05_sub_0, awL_eq, subLs]
      simp only [↓reduceIte, go_sem, ih x (by simp) (hl.all x (by simp)) (d - 1) (rightsB_at hks (by simp)), nat_wrap (n := pre.length) (by omega), hdl, css_snoc, this]
  have l0 := loop ks [] [] rfl rfl
  simp only [List.length_nil, Int.natCast_zero, List.nil_append, Lv.css, Lv.cs] at l0
  rw [f_ref05_sub, subL, byL]
  have hN : (n.toNat : Int) = n := Int.toNat_of_nonneg hn
  by_cases e5 : k = 5
  · subst e5
    by_cases hlt : n < (ps.length : Int)
    · obtain ⟨x, hx⟩ : ∃ x, ps[n.toNat]? = some x := ⟨ps[n.toNat], by simp⟩
      simp only [↓reduceIte, go_sem, Lv.cs, hlt, hn, hx]
    · have hx : ps[n.toNat]? = none := List.getElem?_eq_none (by omega)
      simp only [↓reduceIte, go_sem, Lv.cs, hlt, hx, l0]
  · by_cases e6 : k = 6
    · subst e6
      by_cases hlt : n < (ms.length : Int)
      · obtain ⟨x, hx⟩ : ∃ x, ms[n.toNat]? = some x := ⟨ms[n.toNat], by simp⟩
        simp only [↓reduceIte, go_sem, Lv.cs, hlt, hn, hx]
      · have hx : ms[n.toNat]? = none := List.getElem?_eq_none (by omega)
        simp only [↓reduceIte, go_sem, Lv.cs, hlt, hx, l0]
    · simp only [↓reduceIte, go_sem, Lv.cs, e5, e6, l0]

theorem Sub05_ok (l : Lv) (ps ms : List Lv) (hl : l.ok) (hp : okLs ps) (hm : okLs ms) (hpl : ps.length ≤ 140737488355328) (hml : ms.length ≤ 140737488355328) (H : List AO) :
    F ref05_Sub [.agg l.cs, .sl (Lv.css ps), .sl (Lv.css ms)] H = some (.ret (resL (SubS l ps ms)), H) := by
  rw [f_ref05_Sub, SubS]
  have h1 := Right02_ok l hl 5 10 H
  have h2 := right05_ok ps hpl hp H
  have h3 := right05_ok ms hml hm H
  by_cases hr : RightB l 5 10 = true
  · by_cases a1 : 5 < ps.length
    · have a1' : (5 : Int) < ps.length := by omega
      simp only [↓reduceIte, go_sem, h1, hr, a1, a1', resL, zeroL, Lv.cs, Lv.css, Bool.true_eq_false, false_or, true_or]
    by_cases a2 : 10 < ms.length
    · have a1' : ¬ (5 : Int) < ps.length := by omega
      have a2' : (10 : Int) < ms.length := by omega
      simp only [↓reduceIte, go_sem, h1, hr, a1, a1', a2, a2', resL, zeroL, Lv.cs, Lv.css, Bool.true_eq_false, false_or, true_or]
    have a1' : ¬ (5 : Int) < ps.length := by omega
    have a2' : ¬ (10 : Int) < ms.length := by omega
    cases b1 : rightLs ps with
    | false => simp only [↓reduceIte, go_sem, h1, h2, hr, a1, a1', a2, a2', b1, resL, zeroL, Lv.cs, Lv.css, Bool.true_eq_false, false_or, true_or]
    | true =>
    cases b2 : rightLs ms with
    | false => simp only [↓reduceIte, go_sem, h1, h2, h3, hr, a1, a1', a2, a2', b1, b2, resL, zeroL, Lv.cs, Lv.css, Bool.true_eq_false, false_or, true_or]
    | true =>
    have h4 := sub05_ok 5 10 ps ms l hl 12 (RightB_right hr) H
    have h5 := Right02_ok (subL ps ms l) (subL_ok hp hm l hl) 5 10 H
    cases b3 : RightB (subL ps ms l) 5 10 <;> simp only [b3] at h5 <;> simp only [↓reduceIte, go_sem, h1, h2, h3, h4, h5, hr, a1, a1', a2, a2', b1, b2, b3, resL, zeroL, Lv.cs, Lv.css, Bool.true_eq_false, Bool.false_eq_true, or_self, true_or]
  · simp only [Bool.not_eq_true] at hr
    simp only [↓reduceIte, go_sem, h1, hr, resL, zeroL, Lv.cs, Lv.css, true_or]

/-! ### The program's functions -/
theorem odd_ok (l : Lv) (hl : l.ok) (H : List AO) : F lsub_odd [.agg l.cs] H = some (.ret (.bool (!RightB l 5 10)), H) := by
  rw [f_lsub_odd]
  simp only [↓reduceIte, go_sem, RightP_ok l hl]
theorem grow_ok (n : Int) (h0 : 0 ≤ n) (hn : n ≤ 1073741824) (H : List AO) : F slices_Grow_Level [.ze, .int .i64 n] H = if n = 0 then some (.ret .ze, H) else some (.ret (.ol H.length 1), H ++ [.lst 1 3 []]) := by
  rw [f_slices_Grow_Level]
  by_cases h : n = 0
  · subst h
    have e1 : IntKind.wrap .i64 0 = 0 := wrap64 (by omega) (by omega)
    simp only [↓reduceIte, go_sem, Int.sub_self, e1]
  · simp only [↓reduceIte, go_sem, h, show ¬ n < 0 by omega, show 0 < n by omega, Int.sub_self, Int.sub_zero, wrap64 (n := 0) (by omega) (by omega), wrap64 (n := n) (by omega) (by omega), hn]
/-- A list of levels that is built up. -/
inductive AccL (H : List AO) : AV → List Lv → List AO → Prop
  | ze : AccL H .ze [] H
  | ol (ver : Nat) (es : List Lv) : AccL H (.ol H.length ver) es (H ++ [.lst ver 3 (Lv.css es)])
def sls (xs : List (List Lv)) : List (List AV) := xs.map fun x => [.sl (Lv.css x)]
@[go_sem] theorem sls_len (xs : List (List Lv)) : (sls xs).length = xs.length := by simp [sls]
@[go_sem] theorem sls_get (xs : List (List Lv)) (i : Nat) : (sls xs)[i]? = xs[i]?.map fun x => [.sl (Lv.css x)] := by simp [sls]
@[go_sem] theorem css_all3 (ks : List Lv) : (∀ e ∈ Lv.css ks, e.length = 3) = True := by
  refine eq_true fun e he => ?_
  rw [Lv.css_eq] at he
  obtain ⟨x, _, rfl⟩ := List.mem_map.1 he
  exact cs_len x
@[go_sem] theorem css_all3' (x : Lv) (ks : List Lv) : (∀ e ∈ x.cs :: Lv.css ks, e.length = 3) = True := css_all3 (x :: ks)
theorem css_cons (x : Lv) (ks : List Lv) : x.cs :: Lv.css ks = Lv.css (x :: ks) := rfl
theorem concat_ok (xs : List (List Lv)) (hlen : xs.length ≤ 1000) (ht : xs.flatten.length ≤ 1073741824) (H : List AO) :
    F slices_Concat_Level [.sl (sls xs)] H = some (.ret (.sl (Lv.css xs.flatten)), H) := by
  have loop1 : ∀ (suf pre : List (List Lv)) {v : AV} {es : List Lv} {H1 : List AO}, xs = pre ++ suf → AccL (H ++ [.lst 0 3 []]) v es H1 → es.length + suf.flatten.length ≤ 1073741824 →
      L_slices_Concat_Level_1 H H1 v (.sl (sls xs)) (.int .i64 xs.length) (.int .i64 pre.length) = some (.ret (.sl (Lv.css (es ++ suf.flatten))), H) := by
    intro suf
    induction suf with
    | nil =>
      intro pre v es H1 e ha hb
      subst e
      rw [L_slices_Concat_Level_1, awL_eq]
      cases ha with
      | ze => simp only [↓reduceIte, go_sem, List.flatten_nil, Lv.css]
      | ol ver => simp only [↓reduceIte, go_sem, List.flatten_nil]
    | cons x suf ih =>
      intro pre v es H1 e ha hb
      subst e
      simp at hlen
      rw [List.flatten_cons, List.length_append] at hb
      rw [L_slices_Concat_Level_1, awL_eq]
      cases ha with
      | ze =>
        cases x with
        | nil =>
          have := ih (pre ++ [[]]) (by simp) (AccL.ze (H := H ++ [.lst 0 3 []])) (by simpa using hb)
          simp only [len_app] at this
          simp only [↓reduceIte, go_sem, Lv.css, nat_wrap (n := pre.length) (by omega), this, List.flatten_cons]
        | cons y ys =>
          have := ih (pre ++ [y :: ys]) (by simp) (AccL.ol (H := H ++ [.lst 0 3 []]) 0 (y :: ys)) (by simpa using hb)
          simp only [len_app] at this
          simp only [↓reduceIte, go_sem, Lv.css] at this
          simp at hb
          simp only [↓reduceIte, go_sem, Lv.css, nat_wrap (n := pre.length) (by omega), show ys.length < 1073741824 by omega, this, List.flatten_cons]
      | ol ver =>
        have := ih (pre ++ [x]) (by simp) (AccL.ol (H := H ++ [.lst 0 3 []]) (ver + 1) (es ++ x)) (by simp at hb ⊢; omega)
        simp only [len_app] at this
        simp only [↓reduceIte, go_sem] at this
        simp only [↓reduceIte, go_sem, nat_wrap (n := pre.length) (by omega), show es.length + x.length ≤ 1073741824 by omega, ← css_app, this, List.flatten_cons, List.append_assoc]
  have loop0 : ∀ (suf pre : List (List Lv)), xs = pre ++ suf →
      L_slices_Concat_Level_0 H (H ++ [.lst 0 3 []]) (.sl (sls xs)) (.int .i64 pre.flatten.length) (.sl (sls xs)) (.int .i64 xs.length) (.int .i64 pre.length) = some (.ret (.sl (Lv.css xs.flatten)), H) := by
    intro suf
    induction suf with
    | nil =>
      intro pre e
      subst e
      simp only [List.append_nil] at *
      have hg := grow_ok pre.flatten.length (by omega) (by omega) (H ++ [.lst 0 3 []])
      rw [L_slices_Concat_Level_0, awL_eq]
      by_cases h0 : pre.flatten.length = 0
      · have h1 := loop1 pre [] rfl (AccL.ze (H := H ++ [.lst 0 3 []])) (by simpa using ht)
        simp only [List.length_nil, Int.natCast_zero, List.nil_append] at h1
        rw [if_pos (by omega)] at hg
        simp only [↓reduceIte, go_sem, hg, h1]
      · have h1 := loop1 pre [] rfl (AccL.ol (H := H ++ [.lst 0 3 []]) 1 []) (by simpa using ht)
        simp only [List.length_nil, Int.natCast_zero, List.nil_append] at h1
        rw [if_neg (by omega)] at hg
        simp only [↓reduceIte, go_sem, Lv.css] at hg h1
        simp only [↓reduceIte, go_sem, hg, h1]
    | cons x suf ih =>
      intro pre e
      subst e
      simp at hlen
      have := ih (pre ++ [x]) (by simp)
      have hl : ((pre ++ [x]).flatten.length : Int) = (pre.flatten.length : Int) + (x.length : Int) := by simp
      rw [hl] at this
      simp only [len_app] at this
      simp only [List.flatten_append, List.flatten_cons, List.length_append] at ht
      rw [L_slices_Concat_Level_0, awL_eq]
      simp only [↓reduceIte, go_sem, nat_wrap (n := pre.length) (by omega), wrap64 (n := (pre.flatten.length : Int) + (x.length : Int)) (by omega) (by omega), show ¬ (pre.flatten.length : Int) + (x.length : Int) < 0 by omega]
      rw [this]
  have h0 := loop0 xs [] rfl
  simp only [List.length_nil, Int.natCast_zero, List.flatten_nil] at h0
  rw [f_slices_Concat_Level]
  simp only [↓reduceIte, go_sem, h0]

/-- A function value that tells what stands for a level, in whatever memory besides. -/
def GoodL (fv : AV) (ps ms : List Lv) (H : List AO) : Prop := ∀ (X : List AO) (k n : Int) (ks : List Lv), 0 ≤ n → cfl T fv [.agg (Lv.mk k n ks).cs] (H ++ X) = some (.ret (.tup [.agg ((byL ps ms k n).getD (.mk k n ks)).cs, .bool (byL ps ms k n).isSome]), H ++ X)
theorem GoodL.ext {fv : AV} {ps ms : List Lv} {H : List AO} (h : GoodL fv ps ms H) (Y : List AO) : GoodL fv ps ms (H ++ Y) := fun X k n ks hn => by rw [List.append_assoc]; exact h (Y ++ X) k n ks hn
theorem turnL_ok (p m : Int) (fv : AV) (hfv : fv.one = true) (ps ms : List Lv) (l : Lv) : l.ok → ∀ (d : Int), rightB p m l d = true → ∀ (H : List AO), GoodL fv ps ms H →
    F lsub_turn [.agg l.cs, fv] H = some (.ret (.agg (subL ps ms l).cs), H) := by
  induction l using Lv.ind with
  | h k n ks ih =>
  intro hl d hr H hg
  obtain ⟨hd, hk, hn, h5, h6, h0, hks⟩ := rightB_inv hr
  have hk3 := kids02_le k
  have loop : ∀ (suf pre done : List Lv), ks = pre ++ suf → done.length = pre.length →
      L_lsub_turn_0 H (H ++ [.lst 0 3 [], .lst 0 3 [], .lst done.length 3 (Lv.css done), .lst 0 3 []]) fv (.sl (Lv.css ks)) (.int .i64 ks.length) (.int .i64 pre.length)
        [.int .i64 0, .int .i64 0, .ol H.length 0] [.int .i64 k, .int .i64 n, .ol (H.length + 2) done.length] = some (.ret (.agg (Lv.mk k n (done ++ subLs ps ms suf)).cs), H) := by
    intro suf
    induction suf with
    | nil =>
      intro pre done e he
      subst e
      rw [L_lsub_turn_0, awL_eq]
      simp only [↓reduceIte, go_sem, subLs, Lv.cs]
    | cons x suf ih2 =>
      intro pre done e he
      subst e
      simp at hk
      have := ih2 (pre ++ [x]) (done ++ [subL ps ms x]) (by simp) (by simp [he])
      simp only [len_app] at this
      simp only [len_snoc, List.append_assoc, List.cons_append, List.nil_append] at this
      have hdl : done.length ≤ 1073741823 := by omega
      rw [L_lsub_turn_0, awL_eq, subLs]
      simp only [↓reduceIte, go_sem, ih x (by simp) (hl.all x (by simp)) (d - 1) (rightsB_at hks (by simp)) _ (hg.ext _), nat_wrap (n := pre.length) (by omega), hdl, css_snoc, this]
  have l0 := loop ks [] [] rfl rfl
  simp only [List.length_nil, Int.natCast_zero, List.nil_append, Lv.css, Lv.cs] at l0
  have hb := hg [.lst 0 3 []] k n ks hn
  rw [f_lsub_turn, subL]
  cases hx : byL ps ms k n with
  | some x =>
    simp only [hx, Option.getD_some, Option.isSome_some] at hb
    rw [Lv.cs] at hb ⊢
    simp only [↓reduceIte, go_sem, hb]
  | none =>
    simp only [hx, Option.getD_none, Option.isSome_none] at hb
    rw [Lv.cs] at hb
    rw [Lv.cs]
    simp only [↓reduceIte, go_sem, hb, l0]
    rfl
theorem Sub_ok (l : Lv) (ps ms : List Lv) (hl : l.ok) (hp : okLs ps) (hm : okLs ms) (hpl : ps.length ≤ 140737488355328) (hml : ms.length ≤ 140737488355328) (H : List AO) :
    F lsub_Sub [.agg l.cs, .sl (Lv.css ps), .sl (Lv.css ms)] H = some (.ret (resL (SubS l ps ms)), H) := by
  have h1 := odd_ok l hl (H ++ [.box [.sl (Lv.css ps)], .box [.sl (Lv.css ms)]])
  rw [f_lsub_Sub, SubS]
  by_cases hr : RightB l 5 10 = true
  · by_cases a1 : 5 < ps.length
    · have a1' : (5 : Int) < ps.length := by omega
      simp only [↓reduceIte, go_sem, h1, hr, a1, a1', resL, zeroL, Lv.cs, Lv.css, Bool.true_eq_false, false_or, true_or]
    by_cases a2 : 10 < ms.length
    · have a1' : ¬ (5 : Int) < ps.length := by omega
      have a2' : (10 : Int) < ms.length := by omega
      simp only [↓reduceIte, go_sem, h1, hr, a1, a1', a2, a2', resL, zeroL, Lv.cs, Lv.css, Bool.true_eq_false, false_or, true_or]
    have a1' : ¬ (5 : Int) < ps.length := by omega
    have a2' : ¬ (10 : Int) < ms.length := by omega
    have hc := concat_ok [ps, ms] (by simp) (by simp; omega) (H ++ [.box [.sl (Lv.css ps)], .box [.sl (Lv.css ms)]])
    simp only [sls, List.map_cons, List.map_nil, List.flatten_cons, List.flatten_nil, List.append_nil] at hc
    have ha := anyL_ok (ps ++ ms) (by simp; omega) (.fn (.func lsub_odd) [] []) (fun x => !RightB x 5 10) (H ++ [.box [.sl (Lv.css ps)], .box [.sl (Lv.css ms)]]) (fun x hx => by
      simp only [cfl_f0]
      exact odd_ok x (by rcases List.mem_append.1 hx with h | h; exact hp x h; exact hm x h) _)
    rw [← List.not_all_eq_any_not, List.all_append] at ha
    rw [show (ps.all fun x => RightB x 5 10) = rightLs ps from rfl, show (ms.all fun x => RightB x 5 10) = rightLs ms from rfl] at ha
    by_cases hb : (rightLs ps && rightLs ms) = true
    · have hb2 := hb
      rw [Bool.and_eq_true] at hb2
      have hg : GoodL (.fn (.func lsub_Sub_1) [] [.ptr H.length 0, .ptr (H.length + 1) 0]) ps ms (H ++ [.box [.sl (Lv.css ps)], .box [.sl (Lv.css ms)]]) := by
        intro X k n ks hn
        simp only [cfl_f1, List.cons_append, List.nil_append, List.append_assoc, f_lsub_Sub_1]
        have e : ((H ++ AO.box [.sl (Lv.css ps)] :: AO.box [.sl (Lv.css ms)] :: X)[H.length + 1]?) = some (.box [.sl (Lv.css ms)]) := by rw [app_getN]; rfl
        have e0 : ((H ++ AO.box [.sl (Lv.css ps)] :: AO.box [.sl (Lv.css ms)] :: X)[H.length]?) = some (.box [.sl (Lv.css ps)]) := by rw [app_get0]; rfl
        generalize H ++ AO.box [.sl (Lv.css ps)] :: AO.box [.sl (Lv.css ms)] :: X = H' at *
        unfold byL
        have hN : (n.toNat : Int) = n := Int.toNat_of_nonneg hn
        by_cases e5 : k = 5
        · subst e5
          by_cases hlt : n < (ps.length : Int)
          · obtain ⟨x, hx⟩ : ∃ x, ps[n.toNat]? = some x := ⟨ps[n.toNat], by simp⟩
            simp only [↓reduceIte, go_sem, Lv.cs, e, e0, hlt, hn, hx, Option.getD_some, Option.isSome_some]
          · have hx : ps[n.toNat]? = none := List.getElem?_eq_none (by omega)
            simp only [↓reduceIte, go_sem, Lv.cs, e, e0, hlt, hx, Option.getD_none, Option.isSome_none]
        · by_cases e6 : k = 6
          · subst e6
            by_cases hlt : n < (ms.length : Int)
            · obtain ⟨x, hx⟩ : ∃ x, ms[n.toNat]? = some x := ⟨ms[n.toNat], by simp⟩
              simp only [↓reduceIte, go_sem, Lv.cs, e, e0, hlt, hn, hx, Option.getD_some, Option.isSome_some]
            · have hx : ms[n.toNat]? = none := List.getElem?_eq_none (by omega)
              simp only [↓reduceIte, go_sem, Lv.cs, e, e0, hlt, hx, Option.getD_none, Option.isSome_none]
          · simp only [↓reduceIte, go_sem, Lv.cs, e, e0, e5, e6, Option.getD_none, Option.isSome_none]
      have ht := turnL_ok 5 10 _ rfl ps ms l hl 12 (RightB_right hr) _ hg
      have h5 := odd_ok (subL ps ms l) (subL_ok hp hm l hl) (H ++ [.box [.sl (Lv.css ps)], .box [.sl (Lv.css ms)]])
      simp only [hb] at ha
      cases b3 : RightB (subL ps ms l) 5 10 <;> simp only [b3] at h5 <;> simp only [↓reduceIte, go_sem, h1, hr, a1, a1', a2, a2', hb2.1, hb2.2, hc, ha, ht, h5, b3, resL, zeroL, Lv.cs, Lv.css, Bool.true_eq_false, Bool.false_eq_true, or_self, true_or, false_or]
    · have hb' : rightLs ps = false ∨ rightLs ms = false := by
        cases h1 : rightLs ps <;> cases h2 : rightLs ms <;> simp_all
      simp only [Bool.not_eq_true] at hb
      simp only [hb] at ha
      simp only [↓reduceIte, go_sem, h1, hr, a1, a1', a2, a2', hb', hc, ha, resL, zeroL, Lv.cs, Lv.css, Bool.true_eq_false, or_self, true_or, or_true, false_or]
  · simp only [Bool.not_eq_true] at hr
    simp only [↓reduceIte, go_sem, h1, hr, resL, zeroL, Lv.cs, Lv.css, true_or]
end Go.Ab
