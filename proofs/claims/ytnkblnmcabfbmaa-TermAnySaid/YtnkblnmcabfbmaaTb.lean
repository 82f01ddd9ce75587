/- The statement on any terms. Conditions: none. -/
import Derived.Test.YtnkblnmcabfbmaaTa
set_option linter.unusedVariables false
set_option linter.unusedSimpArgs false
set_option maxRecDepth 100000
set_option maxHeartbeats 2000000
namespace Go.Ab
open Go.RowKit Go.Proofs

theorem few13_ok (t : Te) : t.ok → ∀ (most : Int), -1000000 ≤ most ∧ most ≤ 1000000 → ∀ H, ∃ r : Int, (r ≤ most ∧ (-1000001 ≤ r)) ∧ F law13_Few [.agg t.cs, .int .i64 most] H = some (.ret (.int .i64 r), H) := by
  induction t using Te.ind with
  | h k n ls ks ih =>
  intro hl most hm H
  have hlen := hl.len
  have hlen2 := hl.len2
  have loop2 : ∀ (suf pre : List Te) (m : Int), ks = pre ++ suf → -1000001 ≤ m ∧ m ≤ 1000000 →
      ∃ r : Int, (r ≤ m ∧ (-1000001 ≤ r)) ∧ L_law13_Few_1 H H (.int .i64 m) (.int .i64 pre.length) [.int .i64 k, .int .i64 n, .sl (Lv.css ls), .sl (Te.css ks)] = some (.ret (.int .i64 r), H) := by
    intro suf
    induction suf with
    | nil =>
      intro pre m e hm
      subst e
      refine ⟨m, by omega, ?_⟩
      rw [L_law13_Few_1, awL_eq]
      simp only [↓reduceIte, go_sem]
    | cons x suf ih2 =>
      intro pre m e hm
      subst e
      simp at hlen
      by_cases h0 : 0 < m
      · obtain ⟨r, hr, h1⟩ := ih x (by simp) (hl.all x (by simp)) m (by omega) H
        obtain ⟨q, hq, h2⟩ := ih2 (pre ++ [x]) r (by simp) (by omega)
        simp only [len_app] at h2
        refine ⟨q, by omega, ?_⟩
        rw [L_law13_Few_1, awL_eq]
        simp only [↓reduceIte, go_sem, h0, h1, nat_wrap (n := pre.length) (by omega), h2]
      · refine ⟨m, by omega, ?_⟩
        rw [L_law13_Few_1, awL_eq]
        simp only [↓reduceIte, go_sem, h0]
  have loop1 : ∀ (suf pre : List Lv) (m : Int), ls = pre ++ suf → -1000001 ≤ m ∧ m ≤ 1000000 →
      ∃ r : Int, (r ≤ m ∧ (-1000001 ≤ r)) ∧ L_law13_Few_0 H H (.int .i64 m) (.int .i64 pre.length) [.int .i64 k, .int .i64 n, .sl (Lv.css ls), .sl (Te.css ks)] = some (.ret (.int .i64 r), H) := by
    intro suf
    induction suf with
    | nil =>
      intro pre m e hm
      subst e
      obtain ⟨q, hq, h2⟩ := loop2 ks [] m rfl hm
      simp only [List.length_nil, Int.natCast_zero, List.append_nil] at h2
      refine ⟨q, by omega, ?_⟩
      rw [L_law13_Few_0, awL_eq]
      simp only [↓reduceIte, go_sem, h2]
    | cons x suf ih2 =>
      intro pre m e hm
      subst e
      simp at hlen2
      by_cases h0 : 0 < m
      · have h1 := nodes_ge x m
        have h2 := nodes_le x m
        obtain ⟨q, hq, h3⟩ := ih2 (pre ++ [x]) (m - nodes x m) (by simp) (by omega)
        simp only [len_app] at h3
        refine ⟨q, by omega, ?_⟩
        rw [L_law13_Few_0, awL_eq]
        simp only [↓reduceIte, go_sem, h0, nodes02_ok x (hl.all2 x (by simp)) m (by omega), wrap64 (n := m - nodes x m) (by omega) (by omega), nat_wrap (n := pre.length) (by omega), h3]
      · obtain ⟨q, hq, h2⟩ := loop2 ks [] m rfl hm
        simp only [List.length_nil, Int.natCast_zero] at h2
        refine ⟨q, by omega, ?_⟩
        rw [L_law13_Few_0, awL_eq]
        simp only [↓reduceIte, go_sem, h0, h2]
  obtain ⟨q, hq, h2⟩ := loop1 ls [] (most - 1) rfl (by omega)
  simp only [List.length_nil, Int.natCast_zero] at h2
  refine ⟨q, by omega, ?_⟩
  rw [f_law13_Few]
  simp only [↓reduceIte, go_sem, Te.cs, wrap64 (n := most - 1) (by omega) (by omega), h2]

theorem TermAny_ok (t u : Te) (ht : t.ok) (hu : u.ok) (f b : Int) (H : List AO) : F law13_TermAny [.agg t.cs, .agg u.cs, .int .i64 f, .int .i64 b] H = some (.ret (.bool true), H) := by
  obtain ⟨r, _, h1⟩ := few13_ok t ht 1000 (by omega) H
  obtain ⟨q, _, h2⟩ := few13_ok u hu 1000 (by omega) H
  rw [f_law13_TermAny]
  simp only [↓reduceIte, go_sem, awake13_ok, h1, h2, told13_ok t u ht hu]
  repeat' split
  all_goals rfl
end Go.Ab
