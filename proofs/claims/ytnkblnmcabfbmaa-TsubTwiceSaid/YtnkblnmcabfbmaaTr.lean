/- Terms: which may be; what is put in (the document's functions). Conditions: none. -/
import Derived.Test.YtnkblnmcabfbmaaTm
set_option linter.unusedVariables false
set_option linter.unusedSimpArgs false
set_option maxRecDepth 100000
set_option maxHeartbeats 2000000
namespace Go.Ab
open Go.RowKit Go.Proofs

mutual
def rightT (p m : Int) : Te → Int → Int → Bool
  | .mk k n ls ks, v, d => if d < 1 then false else if (ks.length : Int) ≠ kids13 k then false else if ((ls.all fun x => RightB x p m) && namedB k n ls v) = false then false else rightTs p m k ks 0 v (d - 1)
def rightTs (p m : Int) (k : Int) : List Te → Int → Int → Int → Bool
  | [], _, _, _ => true
  | x :: r, i, v, d => rightT p m x (v + binds k i) d && rightTs p m k r (i + 1) v d
end

theorem right13_ok (p m : Int) (t : Te) : t.ok → ∀ (v d : Int), -1000 ≤ d ∧ d ≤ 1000 → 0 ≤ v ∧ v + d ≤ 1000000 → ∀ (H : List AO), F ref13_right [.agg t.cs, .int .i64 v, .int .i64 p, .int .i64 m, .int .i64 d] H = some (.ret (.bool (rightT p m t v d)), H) := by
  induction t using Te.ind with
  | h k n ls ks ih =>
  intro hl v d hd hv H
  have hlen := hl.len
  have loop : ¬ d < 1 → ∀ (suf pre : List Te), ks = pre ++ suf →
      L_ref13_right_0 H H (.int .i64 v) (.int .i64 p) (.int .i64 m) (.int .i64 d) (.int .i64 pre.length) [.int .i64 k, .int .i64 n, .sl (Lv.css ls), .sl (Te.css ks)] = some (.ret (.bool (rightTs p m k suf pre.length v (d - 1))), H) := by
    intro hd1 suf
    induction suf with
    | nil =>
      intro pre e
      subst e
      rw [L_ref13_right_0, awL_eq]
      simp only [↓reduceIte, go_sem, rightTs]
    | cons x suf ih2 =>
      intro pre e
      subst e
      simp at hlen
      have := ih2 (pre ++ [x]) (by simp)
      simp only [len_app] at this
      have hb := binds_range k pre.length
      rw [L_ref13_right_0, awL_eq, rightTs]
      simp only [↓reduceIte, go_sem, binds13_ok, wrap64 (n := d - 1) (by omega) (by omega), wrap64 (n := v + binds k pre.length) (by omega) (by omega), ih x (by simp) (hl.all x (by simp)) (v + binds k pre.length) (d - 1) (by omega) (by omega) H, nat_wrap (n := pre.length) (by omega), this]
      cases rightT p m x (v + binds k pre.length) (d - 1) <;> simp
  have := fun h => loop h ks [] rfl
  simp only [List.length_nil, Int.natCast_zero] at this
  rw [f_ref13_right, rightT]
  simp only [↓reduceIte, go_sem, Te.cs, kids13_ok, named13_ok k n ls ks hl.len2 hl.all2]
  by_cases h1 : d < 1
  · simp [h1]
  · simp only [this h1]
    grind

def RightT (t : Te) (v p m : Int) : Bool := decide (0 ≤ v) && decide (v ≤ 1000) && decide (0 ≤ p) && decide (p ≤ 5) && decide (0 ≤ m) && decide (m ≤ 10) && decide (parts t 601 ≤ 600) && rightT p m t v 30
theorem RightT13_ok (t : Te) (hl : t.ok) (v p m : Int) (H : List AO) : F ref13_Right [.agg t.cs, .int .i64 v, .int .i64 p, .int .i64 m] H = some (.ret (.bool (RightT t v p m)), H) := by
  rw [f_ref13_Right, RightT]
  have hr : 0 ≤ v → v ≤ 1000 → F ref13_right [.agg t.cs, .int .i64 v, .int .i64 p, .int .i64 m, .int .i64 30] H = some (.ret (.bool (rightT p m t v 30)), H) := fun h1 h2 => right13_ok p m t hl v 30 (by omega) (by omega) H
  by_cases h1 : 0 ≤ v <;> by_cases h2 : v ≤ 1000 <;> simp only [↓reduceIte, go_sem, h1, h2, parts13_ok t hl 601 (by omega), hr] <;> grind
def ShapeB (t : Te) : Bool := RightT t 1000 5 10
theorem Shape13_ok (t : Te) (hl : t.ok) (H : List AO) : F ref13_Shape [.agg t.cs] H = some (.ret (.bool (ShapeB t)), H) := by
  rw [f_ref13_Shape, ShapeB]
  simp only [↓reduceIte, go_sem, RightT13_ok t hl]

mutual
def teEq : Te → Te → Bool
  | .mk a b l ks, .mk c d m js => decide (a = c) && decide (b = d) && lvsEq l m && tesEq ks js
def tesEq : List Te → List Te → Bool
  | [], [] => true
  | x :: l, y :: m => teEq x y && tesEq l m
  | _, _ => false
end
theorem tesEq_len : ∀ {l m : List Te}, l.length ≠ m.length → tesEq l m = false
  | [], [], h => absurd rfl h
  | [], _ :: _, _ => by rw [tesEq]; all_goals simp
  | _ :: _, [], _ => by rw [tesEq]; all_goals simp
  | x :: l, y :: m, h => by rw [tesEq, tesEq_len (l := l) (m := m) (by simpa using h)]; simp
theorem same13_ok (a : Te) : a.ok → ∀ (b : Te) (H : List AO), F ref13_Same [.agg a.cs, .agg b.cs] H = some (.ret (.bool (teEq a b)), H) := by
  induction a using Te.ind with
  | h k n ls ks ih =>
  intro hl b H
  obtain ⟨k', n', ls', ks'⟩ := b
  have hlen := hl.len
  have hlen2 := hl.len2
  have loop2 : ks.length = ks'.length → ∀ (suf pre suf' pre' : List Te), ks = pre ++ suf → ks' = pre' ++ suf' → pre.length = pre'.length →
      L_ref13_Same_1 H H (.int .i64 pre.length) [.int .i64 k, .int .i64 n, .sl (Lv.css ls), .sl (Te.css ks)] [.int .i64 k', .int .i64 n', .sl (Lv.css ls'), .sl (Te.css ks')] = some (.ret (.bool (tesEq suf suf')), H) := by
    intro hll suf
    induction suf with
    | nil =>
      intro pre suf' pre' e e' he
      subst e
      subst e'
      have : suf' = [] := List.eq_nil_of_length_eq_zero (by simp at hll; omega)
      subst this
      rw [L_ref13_Same_1, awL_eq]
      simp only [↓reduceIte, go_sem, tesEq]
    | cons x suf ih2 =>
      intro pre suf' pre' e e' he
      subst e
      subst e'
      simp at hlen
      cases suf' with
      | nil => simp at hll; omega
      | cons y suf' =>
      have hy : (pre' ++ y :: suf')[pre.length]? = some y := by rw [he]; simp
      have := ih2 (pre ++ [x]) suf' (pre' ++ [y]) (by simp) (by simp) (by simp [he])
      simp only [len_app] at this
      rw [L_ref13_Same_1, awL_eq, tesEq]
      simp only [↓reduceIte, go_sem, hy, ih x (by simp) (hl.all x (by simp)) y H, nat_wrap (n := pre.length) (by omega), this]
      cases teEq x y <;> simp
  have loop1 : ks.length = ks'.length → ls.length = ls'.length → ∀ (suf pre suf' pre' : List Lv), ls = pre ++ suf → ls' = pre' ++ suf' → pre.length = pre'.length →
      L_ref13_Same_0 H H (.int .i64 pre.length) [.int .i64 k, .int .i64 n, .sl (Lv.css ls), .sl (Te.css ks)] [.int .i64 k', .int .i64 n', .sl (Lv.css ls'), .sl (Te.css ks')] = some (.ret (.bool (lvsEq suf suf' && tesEq ks ks')), H) := by
    intro hkk hll suf
    induction suf with
    | nil =>
      intro pre suf' pre' e e' he
      subst e
      subst e'
      have : suf' = [] := List.eq_nil_of_length_eq_zero (by simp at hll; omega)
      subst this
      rw [L_ref13_Same_0, awL_eq]
      have := loop2 hkk ks [] ks' [] rfl rfl rfl
      simp only [List.length_nil, Int.natCast_zero, List.append_nil] at this
      simp only [↓reduceIte, go_sem, lvsEq, this, Bool.true_and]
    | cons x suf ih2 =>
      intro pre suf' pre' e e' he
      subst e
      subst e'
      simp at hlen2
      cases suf' with
      | nil => simp at hll; omega
      | cons y suf' =>
      have hy : (pre' ++ y :: suf')[pre.length]? = some y := by rw [he]; simp
      have := ih2 (pre ++ [x]) suf' (pre' ++ [y]) (by simp) (by simp) (by simp [he])
      simp only [len_app] at this
      rw [L_ref13_Same_0, awL_eq, lvsEq]
      simp only [↓reduceIte, go_sem, hy, same02_ok x (hl.all2 x (by simp)) y H, nat_wrap (n := pre.length) (by omega), this]
      cases lvEq x y <;> simp
  rw [f_ref13_Same, teEq]
  simp only [↓reduceIte, go_sem, Te.cs]
  by_cases h3 : ks.length = ks'.length
  · by_cases h4 : ls.length = ls'.length
    · have := loop1 h3 h4 ls [] ls' [] rfl rfl rfl
      simp only [List.length_nil, Int.natCast_zero] at this
      rw [this]
      grind
    · have h4' : ¬ (ls.length : Int) = (ls'.length : Int) := by omega
      rw [lvsEq_len h4]
      simp [h4']
  · have h3' : ¬ (ks.length : Int) = (ks'.length : Int) := by omega
    rw [tesEq_len h3]
    simp [h3']
end Go.Ab
