/- Levels put into terms: what comes of it; the program's Sub. Conditions: none. -/
import Derived.Test.YtnkblnmcabfbmaaLq
import Derived.Test.YtnkblnmcabfbmaaTp
set_option linter.unusedVariables false
set_option linter.unusedSimpArgs false
set_option maxRecDepth 100000
set_option maxHeartbeats 2000000
namespace Go.Ab
open Go.RowKit Go.Proofs


def mxE (a b : Int) : Int := if b > a then b else a
mutual
def subT (ps ms : List Lv) : Te → Te
  | .mk k n ls ks => .mk k n (ls.map fun l => (SubS l ps ms).1) (subTs ps ms ks)
def subTs (ps ms : List Lv) : List Te → List Te
  | [] => []
  | x :: r => subT ps ms x :: subTs ps ms r
end
mutual
/-- The greatest error of a term's levels. -/
def errT (ps ms : List Lv) : Te → Int → Int
  | .mk _ _ ls ks, e => errTs ps ms ks (errLs ps ms ls e)
def errTs (ps ms : List Lv) : List Te → Int → Int
  | [], e => e
  | x :: r, e => errTs ps ms r (errT ps ms x e)
def errLs (ps ms : List Lv) : List Lv → Int → Int
  | [], e => e
  | l :: r, e => errLs ps ms r (mxE e (SubS l ps ms).2)
end
mutual
def okTm (ps ms : List Lv) : Te → Bool
  | .mk _ _ ls ks => (ls.all fun l => decide ((SubS l ps ms).2 = 0)) && okTms ps ms ks
def okTms (ps ms : List Lv) : List Te → Bool
  | [] => true
  | x :: r => okTm ps ms x && okTms ps ms r
end
theorem SubS_err (l : Lv) (ps ms : List Lv) : (SubS l ps ms).2 = 0 ∨ (SubS l ps ms).2 = 1 ∨ (SubS l ps ms).2 = 2 := by
  unfold SubS; split
  · simp
  · split <;> simp
theorem errLs_zero (ps ms : List Lv) : ∀ (ls : List Lv) (e : Int), 0 ≤ e → (0 ≤ errLs ps ms ls e ∧ (errLs ps ms ls e = 0 ↔ e = 0 ∧ (ls.all fun l => decide ((SubS l ps ms).2 = 0)) = true))
  | [], e, h => by simp [errLs, h]
  | l :: r, e, h => by
    have hs := SubS_err l ps ms
    have hm : 0 ≤ mxE e (SubS l ps ms).2 := by unfold mxE; split <;> omega
    have hz : mxE e (SubS l ps ms).2 = 0 ↔ e = 0 ∧ (SubS l ps ms).2 = 0 := by unfold mxE; split <;> omega
    have := errLs_zero ps ms r _ hm
    rw [errLs]
    refine ⟨this.1, ?_⟩
    rw [this.2, hz]
    simp [and_assoc]
mutual
theorem errT_zero (ps ms : List Lv) : ∀ (t : Te) (e : Int), 0 ≤ e → (0 ≤ errT ps ms t e ∧ (errT ps ms t e = 0 ↔ e = 0 ∧ okTm ps ms t = true))
  | .mk k n ls ks, e, h => by
    have h1 := errLs_zero ps ms ls e h
    have h2 := errTs_zero ps ms ks _ h1.1
    rw [errT, okTm]
    refine ⟨h2.1, ?_⟩
    rw [h2.2, h1.2, Bool.and_eq_true, and_assoc]
theorem errTs_zero (ps ms : List Lv) : ∀ (ks : List Te) (e : Int), 0 ≤ e → (0 ≤ errTs ps ms ks e ∧ (errTs ps ms ks e = 0 ↔ e = 0 ∧ okTms ps ms ks = true))
  | [], e, h => by simp [errTs, okTms, h]
  | x :: r, e, h => by
    have h1 := errT_zero ps ms x e h
    have h2 := errTs_zero ps ms r _ h1.1
    rw [errTs, okTms]
    refine ⟨h2.1, ?_⟩
    rw [h2.2, h1.2, Bool.and_eq_true, and_assoc]
end
theorem SubS_ok' {l : Lv} {ps ms : List Lv} (hl : l.ok) (hp : okLs ps) (hm : okLs ms) : (SubS l ps ms).1.ok := by
  have hz : zeroL.ok := .mk (by simp) (by intro x hx; cases hx)
  unfold SubS
  split
  · exact hz
  · split
    · exact subL_ok hp hm l hl
    · exact hz
theorem subTs_eq (ps ms : List Lv) : ∀ ks : List Te, subTs ps ms ks = ks.map (subT ps ms)
  | [] => rfl
  | x :: r => by rw [subTs, subTs_eq ps ms r]; rfl
theorem subT_ok {ps ms : List Lv} (hp : okLs ps) (hm : okLs ms) (t : Te) : t.ok → (subT ps ms t).ok := by
  induction t using Te.ind with
  | h k n ls ks ih =>
  intro hl
  rw [subT, subTs_eq]
  refine .mk (by simpa using hl.len) (by simpa using hl.len2) (fun x hx => ?_) (fun x hx => ?_)
  · obtain ⟨y, hy, rfl⟩ := List.mem_map.1 hx
    exact SubS_ok' (hl.all2 y hy) hp hm
  · obtain ⟨y, hy, rfl⟩ := List.mem_map.1 hx
    exact ih y hy (hl.all y hy)
def TSubS (t : Te) (ps ms : List Lv) : Te × Int :=
  if ShapeB t = false ∨ 5 < ps.length ∨ 10 < ms.length ∨ rightLs ps = false ∨ rightLs ms = false then (zeroT, 1)
  else if okTm ps ms t = true then (subT ps ms t, 0) else (zeroT, 2)
theorem TSubS_ok {t : Te} {ps ms : List Lv} (ht : t.ok) (hp : okLs ps) (hm : okLs ms) : (TSubS t ps ms).1.ok := by
  have hz : zeroT.ok := .mk (by simp) (by simp) (by intro x hx; cases hx) (by intro x hx; cases hx)
  unfold TSubS
  split
  · exact hz
  · split
    · exact subT_ok hp hm t ht
    · exact hz

/-! ### A box amid others -/
open Classical in
theorem fin1F_mid1 {A X J : List AO} {o o' : AO} {r : Res} (ho : LtO (A.length + (X.length + 1)) o') : fin1F (A ++ (o :: X)) r (A ++ (o' :: (X ++ J))) = if LtR (A ++ (o :: X)).length r then some (r, A ++ (o' :: X)) else none := by
  have e : A ++ (o' :: (X ++ J)) = (A ++ (o :: X)).set A.length o' ++ J := by simp
  have hl : (A ++ (o :: X)).length = A.length + (X.length + 1) := by simp
  rw [e, fin1F_set (by rw [hl]; exact ho)]
  simp
open Classical in
theorem fin1F_mid0 {A X : List AO} {o o' : AO} {r : Res} (ho : LtO (A.length + (X.length + 1)) o') : fin1F (A ++ (o :: X)) r (A ++ (o' :: X)) = if LtR (A ++ (o :: X)).length r then some (r, A ++ (o' :: X)) else none := by
  have := fin1F_mid1 (A := A) (X := X) (J := []) (o := o) (o' := o') (r := r) ho
  rwa [List.append_nil] at this
def putB (ps ms : List Lv) (e : Int) : AO := .box [.sl (Lv.css ps), .sl (Lv.css ms), .int .i64 e]
theorem putB_lt (n : Nat) (ps ms : List Lv) (e : Int) : LtO n (.box [.sl (Lv.css ps), .sl (Lv.css ms), .int .i64 e]) := by
  intro a ha
  simp at ha
  rcases ha with rfl | rfl | rfl
  · exact .sl fun a ha => of_eq_true (lt_css n ps) a ha
  · exact .sl fun a ha => of_eq_true (lt_css n ms) a ha
  · exact .int _ _
theorem putter_ok (ps ms : List Lv) (hp : okLs ps) (hm : okLs ms) (hpl : ps.length ≤ 140737488355328) (hml : ms.length ≤ 140737488355328) (p m : Int) (t : Te) : t.ok → ∀ (v d : Int), rightT p m t v d = true → ∀ (A X : List AO) (e : Int),
    F tsub_putter_term [.ptr A.length 0, .agg t.cs] (A ++ (.box [.sl (Lv.css ps), .sl (Lv.css ms), .int .i64 e] :: X)) = some (.ret (.agg (subT ps ms t).cs), A ++ (.box [.sl (Lv.css ps), .sl (Lv.css ms), .int .i64 (errT ps ms t e)] :: X)) := by
  induction t using Te.ind with
  | h k n ls ks ih =>
  intro hl v d hr A X e
  obtain ⟨hd1, hk, hls, hn, hks⟩ := rightT_inv hr
  have hk3 := kids13_le k
  have hl5 : ls.length ≤ 5 := by
    unfold namedB at hn
    split at hn
    · simp at hn; simp [hn.2]
    · split at hn
      · simp at hn; omega
      · split at hn
        · simp at hn; exact hn.2
        · simp at hn; simp [hn.2]
  have hf := fun (o o' : AO) r J (ho : LtO (A.length + (X.length + 1)) o') => fin1F_mid1 (A := A) (X := X) (J := J) (o := o) (o' := o') (r := r) ho
  have loop1 : ∀ (suf pre done : List Te) (e' : Int), ks = pre ++ suf → done.length = pre.length →
      L_tsub_putter_term_1 (A ++ (.box [.sl (Lv.css ps), .sl (Lv.css ms), .int .i64 e] :: X)) (A ++ (.box [.sl (Lv.css ps), .sl (Lv.css ms), .int .i64 e'] :: (X ++ [.lst 0 3 [], .lst 0 4 [], .lst ls.length 3 (Lv.css (ls.map fun l => (SubS l ps ms).1)), .lst done.length 4 (Te.css done), .lst 0 3 [], .lst 0 4 []])))
        (.ptr A.length 0) (.sl (Te.css ks)) (.int .i64 ks.length) (.int .i64 pre.length) [.int .i64 0, .int .i64 0, .ol (A.length + (X.length + 1)) 0, .ol (A.length + (X.length + 2)) 0] [.int .i64 k, .int .i64 n, .ol (A.length + (X.length + 3)) ls.length, .ol (A.length + (X.length + 4)) done.length] =
      some (.ret (.agg (Te.mk k n (ls.map fun l => (SubS l ps ms).1) (done ++ subTs ps ms suf)).cs), A ++ (.box [.sl (Lv.css ps), .sl (Lv.css ms), .int .i64 (errTs ps ms suf e')] :: X)) := by
    intro suf
    induction suf with
    | nil =>
      intro pre done e' eq he
      subst eq
      rw [L_tsub_putter_term_1, awL_eq]
      simp only [↓reduceIte, go_sem, subTs, Te.cs, errTs, hf, putB_lt, Nat.add_le_add_iff_left, Nat.reduceLeDiff]
    | cons x suf ih2 =>
      intro pre done e' eq he
      subst eq
      simp at hk
      have := ih2 (pre ++ [x]) (done ++ [subT ps ms x]) (errT ps ms x e') (by simp) (by simp [he])
      simp only [len_app] at this
      simp only [len_snoc, List.append_assoc, List.cons_append, List.nil_append] at this
      have hdl : done.length ≤ 1073741823 := by omega
      rw [L_tsub_putter_term_1, awL_eq, subTs, errTs]
      simp only [↓reduceIte, go_sem, ih x (by simp) (hl.all x (by simp)) _ _ (rightTs_mid hks), nat_wrap (n := pre.length) (by omega), hdl, this]
  have loop0 : ∀ (suf pre : List Lv) (e' : Int), ls = pre ++ suf →
      L_tsub_putter_term_0 (A ++ (.box [.sl (Lv.css ps), .sl (Lv.css ms), .int .i64 e] :: X)) (A ++ (.box [.sl (Lv.css ps), .sl (Lv.css ms), .int .i64 e'] :: (X ++ [.lst 0 3 [], .lst 0 4 [], .lst pre.length 3 (Lv.css (pre.map fun l => (SubS l ps ms).1)), .lst 0 4 [], .lst 0 3 [], .lst 0 4 []])))
        (.ptr A.length 0) (.sl (Lv.css ls)) (.int .i64 ls.length) (.int .i64 pre.length) [.int .i64 k, .int .i64 n, .sl (Lv.css ls), .sl (Te.css ks)] [.int .i64 0, .int .i64 0, .ol (A.length + (X.length + 1)) 0, .ol (A.length + (X.length + 2)) 0] [.int .i64 k, .int .i64 n, .ol (A.length + (X.length + 3)) pre.length, .ol (A.length + (X.length + 4)) 0] =
      some (.ret (.agg (Te.mk k n (ls.map fun l => (SubS l ps ms).1) (subTs ps ms ks)).cs), A ++ (.box [.sl (Lv.css ps), .sl (Lv.css ms), .int .i64 (errTs ps ms ks (errLs ps ms suf e'))] :: X)) := by
    intro suf
    induction suf with
    | nil =>
      intro pre e' eq
      subst eq
      rw [List.append_nil] at *
      have h1 := loop1 ks [] [] e' rfl rfl
      simp only [List.length_nil, Int.natCast_zero, List.nil_append, Te.css] at h1
      rw [L_tsub_putter_term_0, awL_eq]
      simp only [↓reduceIte, go_sem, errLs, h1]
    | cons l suf ih2 =>
      intro pre e' eq
      subst eq
      simp at hl5
      have := ih2 (pre ++ [l]) (mxE e' (SubS l ps ms).2) (by simp)
      simp only [len_app] at this
      simp only [len_snoc, List.map_append, List.map_cons, List.map_nil] at this
      have hs := fun H => Sub_ok l ps ms (hl.all2 l (by simp)) hp hm hpl hml H
      simp only [resL] at hs
      rw [L_tsub_putter_term_0, awL_eq, errLs]
      simp only [↓reduceIte, go_sem, hs, nat_wrap (n := pre.length) (by omega), css_snoc, List.length_map, show pre.length + (0 + 1) ≤ 1073741824 by omega]
      unfold mxE at this ⊢
      rw [this]
      simp only [List.map_append, List.map_cons]
  have h0 := loop0 ls [] e rfl
  simp only [List.length_nil, Int.natCast_zero, List.map_nil, Lv.css] at h0
  rw [f_tsub_putter_term, subT, errT]
  simp only [↓reduceIte, go_sem, Te.cs]
  exact h0

theorem tsodd_ok (l : Lv) (hl : l.ok) (H : List AO) : F tsub_odd [.agg l.cs] H = some (.ret (.bool (!RightB l 5 10)), H) := by
  rw [f_tsub_odd]
  simp only [↓reduceIte, go_sem, RightP_ok l hl]
theorem RightT_shape (t : Te) : RightT t 1000 5 10 = ShapeB t := rfl
theorem TSub_ok (t : Te) (ps ms : List Lv) (ht : t.ok) (hp : okLs ps) (hm : okLs ms) (hpl : ps.length ≤ 140737488355328) (hml : ms.length ≤ 140737488355328) (H : List AO) :
    F tsub_Sub [.agg t.cs, .sl (Lv.css ps), .sl (Lv.css ms)] H = some (.ret (resT (TSubS t ps ms)), H) := by
  have h1 := fun H => RightTP_ok t ht 1000 5 10 H
  simp only [RightT_shape] at h1
  rw [f_tsub_Sub, TSubS]
  by_cases hr : ShapeB t = true
  · by_cases a1 : 5 < ps.length
    · have a1' : (5 : Int) < ps.length := by omega
      simp only [↓reduceIte, go_sem, h1, hr, a1, a1', resT, zeroT, Te.cs, Lv.css, Te.css, Bool.true_eq_false, false_or, true_or]
    by_cases a2 : 10 < ms.length
    · have a1' : ¬ (5 : Int) < ps.length := by omega
      have a2' : (10 : Int) < ms.length := by omega
      simp only [↓reduceIte, go_sem, h1, hr, a1, a1', a2, a2', resT, zeroT, Te.cs, Lv.css, Te.css, Bool.true_eq_false, false_or, true_or]
    have a1' : ¬ (5 : Int) < ps.length := by omega
    have a2' : ¬ (10 : Int) < ms.length := by omega
    have hc := concat_ok [ps, ms] (by simp) (by simp; omega) H
    simp only [sls, List.map_cons, List.map_nil, List.flatten_cons, List.flatten_nil, List.append_nil] at hc
    have ha := anyL_ok (ps ++ ms) (by simp; omega) (.fn (.func tsub_odd) [] []) (fun x => !RightB x 5 10) H (fun x hx => by
      simp only [cfl_f0]
      exact tsodd_ok x (by rcases List.mem_append.1 hx with h | h; exact hp x h; exact hm x h) _)
    rw [← List.not_all_eq_any_not, List.all_append] at ha
    rw [show (ps.all fun x => RightB x 5 10) = rightLs ps from rfl, show (ms.all fun x => RightB x 5 10) = rightLs ms from rfl] at ha
    by_cases hb : (rightLs ps && rightLs ms) = true
    · have hb2 := hb
      rw [Bool.and_eq_true] at hb2
      have hq := putter_ok ps ms hp hm hpl hml 5 10 t ht 1000 30 (shape_inv hr) H [] 0
      have hz := errT_zero ps ms t 0 (by omega)
      simp only [hb] at ha
      by_cases b3 : okTm ps ms t = true
      · have b4 : errT ps ms t 0 = 0 := hz.2.2 ⟨rfl, b3⟩
        rw [b4] at hq
        simp only [↓reduceIte, go_sem, h1, hr, a1, a1', a2, a2', hb2.1, hb2.2, hc, ha, hq, b3, resT, zeroT, Te.cs, Lv.css, Te.css, Bool.true_eq_false, Bool.false_eq_true, or_self, true_or, false_or]
      · have b4 : ¬ errT ps ms t 0 = 0 := fun h => b3 (hz.2.1 h).2
        simp only [Bool.not_eq_true] at b3
        simp only [↓reduceIte, go_sem, h1, hr, a1, a1', a2, a2', hb2.1, hb2.2, hc, ha, hq, b3, b4, resT, zeroT, Te.cs, Lv.css, Te.css, Bool.true_eq_false, Bool.false_eq_true, or_self, true_or, false_or]
    · have hb' : rightLs ps = false ∨ rightLs ms = false := by
        cases h1 : rightLs ps <;> cases h2 : rightLs ms <;> simp_all
      simp only [Bool.not_eq_true] at hb
      simp only [hb] at ha
      simp only [↓reduceIte, go_sem, h1, hr, a1, a1', a2, a2', hb', hc, ha, resT, zeroT, Te.cs, Lv.css, Te.css, Bool.true_eq_false, or_self, true_or, or_true, false_or]
  · simp only [Bool.not_eq_true] at hr
    simp only [↓reduceIte, go_sem, h1, hr, resT, zeroT, Te.cs, Lv.css, Te.css, true_or]


def resO (ps ms : List Lv) (t : Te) : AV := .tup [.agg (if okTm ps ms t = true then subT ps ms t else zeroT).cs, .bool (okTm ps ms t)]
end Go.Ab
