/- The statement on deep terms. Conditions: none. -/
import Derived.Test.YtnkblnmcabfbmaaTh
set_option linter.unusedVariables false
set_option linter.unusedSimpArgs false
set_option maxRecDepth 100000
set_option maxHeartbeats 2000000
namespace Go.Ab
open Go.RowKit Go.Proofs

@[go_sem] theorem over_tcs2 (t l : Te) : over t.cs 0 l.cs = l.cs := by cases t; cases l; rfl

theorem okT_var (n : Int) : (Te.mk 1 n [] []).ok := by simp [okT_mk]
theorem okT_bind {k : Int} {a b : Te} (ha : a.ok) (hb : b.ok) : (Te.mk k 0 [] [a, b]).ok := by simp [okT_mk, ha, hb]
theorem deep0 (n w : Int) (hn : 0 ≤ n ∧ n < 256) (hw : 0 ≤ w ∧ w < 256) (H : List AO) : ∀ (m : Nat) (i : Int) (t : Te), t.ok → 0 ≤ i → i + m = n.tmod 35 →
    L_law13_TermDeep_0 H H (.int .u8 n) (.int .u8 w) (.int .i64 i) t.cs = some (.ret (.bool true), H) := by
  have w1 : IntKind.i64.wrap n = n := wrap64 (by omega) (by omega)
  have w4 : IntKind.i64.wrap w = w := wrap64 (by omega) (by omega)
  have hq : w.tdiv 3 = (w / 3) := Int.tdiv_eq_ediv_of_nonneg hw.1
  have w5 : IntKind.i64.wrap (w.tdiv 3) = w.tdiv 3 := by rw [hq]; exact wrap64 (by omega) (by omega)
  have hr : (w.tdiv 3).tmod 2 = 0 ∨ (w.tdiv 3).tmod 2 = 1 := by rw [hq, Int.tmod_eq_emod_of_nonneg (by omega)]; omega
  have hm : n.tmod 35 < 35 := by rw [Int.tmod_eq_emod_of_nonneg hn.1]; omega
  intro m
  induction m with
  | zero =>
    intro i t ht h0 h1
    have h2 : ¬ i < n.tmod 35 := by omega
    rw [L_law13_TermDeep_0, awL_eq]
    simp only [↓reduceIte, go_sem, w1, h2, awake13_ok, told13_ok t t ht ht, Var13_ok, told13_ok _ _ ht (okT_var _), told13_ok _ _ (okT_var _) ht]
  | succ m ih =>
    intro i t ht h0 h1
    have h2 : i < n.tmod 35 := by omega
    have w6 : IntKind.i64.wrap (i + 1) = i + 1 := wrap64 (by omega) (by omega)
    have t1 : Int.toNat 1 = 1 := rfl
    have g1 := ih (i + 1) (.mk 5 0 [] [t, .mk 1 0 [] []]) (okT_bind ht (okT_var _)) (by omega) (by omega)
    have g2 := ih (i + 1) (.mk 4 0 [] [t, .mk 1 0 [] []]) (okT_bind ht (okT_var _)) (by omega) (by omega)
    rw [L_law13_TermDeep_0, awL_eq]
    rcases hr with hr | hr
    · simp only [↓reduceIte, go_sem, w1, h2, w4, w5, hr, Var13_ok, tfold2, Bind13_ok, w6, g1]
    · simp only [↓reduceIte, go_sem, w1, h2, w4, w5, hr, Var13_ok, tfold2, Bind13_ok, w6, g2, t1]
theorem deep2 (n : Int) (hn : 0 ≤ n ∧ n < 256) (H : List AO) : ∀ (m : Nat) (i : Int) (t : Te), t.ok → 0 ≤ i → i + m = n.tmod 60 →
    L_law13_TermDeep_2 H H (.int .u8 n) (.int .i64 i) t.cs = some (.ret (.bool true), H) := by
  have w1 : IntKind.i64.wrap n = n := wrap64 (by omega) (by omega)
  have hm : n.tmod 60 < 60 := by rw [Int.tmod_eq_emod_of_nonneg hn.1]; omega
  intro m
  induction m with
  | zero =>
    intro i t ht h0 h1
    have h2 : ¬ i < n.tmod 60 := by omega
    rw [L_law13_TermDeep_2, awL_eq]
    simp only [↓reduceIte, go_sem, w1, h2, awake13_ok, told13_ok t t ht ht, Var13_ok, told13_ok _ _ ht (okT_var _), told13_ok _ _ (okT_var _) ht]
  | succ m ih =>
    intro i t ht h0 h1
    have h2 : i < n.tmod 60 := by omega
    have w6 : IntKind.i64.wrap (i + 1) = i + 1 := wrap64 (by omega) (by omega)
    have g1 := ih (i + 1) (.mk 4 0 [] [t, .mk 1 1 [] []]) (okT_bind ht (okT_var _)) (by omega) (by omega)
    have g2 := ih (i + 1) (.mk 4 0 [] [t, .mk 4 0 [] [.mk 1 0 [] [], .mk 1 0 [] []]]) (okT_bind ht (okT_bind (okT_var _) (okT_var _))) (by omega) (by omega)
    rw [L_law13_TermDeep_2, awL_eq]
    by_cases h3 : 18 < i
    · simp only [↓reduceIte, go_sem, w1, h2, h3, Var13_ok, tfold2, Bind13_ok, w6, tcs_d3, Te.css, g2]
    · simp only [↓reduceIte, go_sem, w1, h2, h3, Var13_ok, tfold2, Bind13_ok, w6, g1]
theorem deep1 (n : Int) (hn : 0 ≤ n ∧ n < 256) (H : List AO) : ∀ (m : Nat) (i : Int) (t : Te), t.ok → 0 ≤ i → i + m = 8 →
    L_law13_TermDeep_1 H H (.int .u8 n) (.int .i64 i) t.cs = some (.ret (.bool true), H) := by
  intro m
  induction m with
  | zero =>
    intro i t ht h0 h1
    have h2 : ¬ i < 8 := by omega
    have hm : 0 ≤ n.tmod 60 := by rw [Int.tmod_eq_emod_of_nonneg hn.1]; omega
    have g := deep2 n hn H (n.tmod 60).toNat 0 t ht (by omega) (by omega)
    rw [L_law13_TermDeep_1, awL_eq]
    simp only [↓reduceIte, go_sem, h2, g]
  | succ m ih =>
    intro i t ht h0 h1
    have h2 : i < 8 := by omega
    have w6 : IntKind.i64.wrap (i + 1) = i + 1 := wrap64 (by omega) (by omega)
    have g1 := ih (i + 1) (.mk 4 0 [] [t, t]) (okT_bind ht ht) (by omega) (by omega)
    rw [L_law13_TermDeep_1, awL_eq]
    simp only [↓reduceIte, go_sem, h2, tfold2, Bind13_ok, w6, g1]
theorem TermDeep_row (n : Int) (hn : 0 ≤ n ∧ n < 256) (w : Int) (hw : 0 ≤ w ∧ w < 256) (H : List AO) : F law13_TermDeep [.int .u8 n, .int .u8 w] H = some (.ret (.bool true), H) := by
  have hm : 0 ≤ n.tmod 35 := by rw [Int.tmod_eq_emod_of_nonneg hn.1]; omega
  have g0 := deep0 n w hn hw H (n.tmod 35).toNat 0 _ (okT_var 0) (by omega) (by omega)
  have g1 := deep1 n hn H 8 0 _ (okT_var 0) (by omega) (by omega)
  have w1 : IntKind.i64.wrap n = n := wrap64 (by omega) (by omega)
  have hq : n.tdiv 8 = (n / 8) := Int.tdiv_eq_ediv_of_nonneg hn.1
  have w5 : IntKind.i64.wrap (n.tdiv 8) = n.tdiv 8 := by rw [hq]; exact wrap64 (by omega) (by omega)
  have hq2 : (n.tdiv 8).tmod 8 = (n / 8) % 8 := by rw [hq, Int.tmod_eq_emod_of_nonneg (by omega)]
  have hq3 : n.tmod 8 = n % 8 := Int.tmod_eq_emod_of_nonneg hn.1
  have w6 : IntKind.i64.wrap (995 + n.tmod 8) = 995 + n.tmod 8 := wrap64 (by omega) (by omega)
  have w7 : IntKind.i64.wrap (995 + (n.tdiv 8).tmod 8) = 995 + (n.tdiv 8).tmod 8 := wrap64 (by omega) (by omega)
  have ht : (Te.mk 5 0 [] [.mk 1 (995 + n.tmod 8) [] [], .mk 1 (995 + (n.tdiv 8).tmod 8) [] []]).ok := okT_bind (okT_var _) (okT_var _)
  have h3 : w.tmod 3 = 0 ∨ w.tmod 3 = 1 ∨ w.tmod 3 = 2 := by rw [Int.tmod_eq_emod_of_nonneg hw.1]; omega
  rw [f_law13_TermDeep]
  rcases h3 with h | h | h
  · simp only [↓reduceIte, go_sem, Var13_ok, h, g0]
  · simp only [↓reduceIte, go_sem, Var13_ok, h, g1]
  · simp only [↓reduceIte, go_sem, Var13_ok, h, w1, w5, w6, w7, tfold2, Bind13_ok, awake13_ok, told13_ok _ _ ht ht, told13_ok _ _ ht (okT_var _), told13_ok _ _ (okT_var _) ht]
end Go.Ab
