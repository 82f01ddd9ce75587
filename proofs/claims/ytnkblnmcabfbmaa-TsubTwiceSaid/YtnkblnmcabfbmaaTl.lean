/- Terms: Lift and Open (the document's functions). Conditions: none. -/
import Derived.Test.YtnkblnmcabfbmaaTr
set_option linter.unusedVariables false
set_option linter.unusedSimpArgs false
set_option maxRecDepth 100000
set_option maxHeartbeats 2000000
namespace Go.Ab
open Go.RowKit Go.Proofs

mutual
def liftT (b : Int) : Te → Int → Te
  | .mk k n ls ks, f => .mk k (if k = 1 ∧ f ≤ n then n + b else n) ls (liftTs b k ks 0 f)
def liftTs (b k : Int) : List Te → Int → Int → List Te
  | [], _, _ => []
  | x :: r, i, f => liftT b x (f + binds k i) :: liftTs b k r (i + 1) f
end
mutual
def openT (u : Te) : Te → Int → Te
  | .mk k n ls ks, f => if k = 1 ∧ n = f then liftT f u 0 else .mk k (if k = 1 ∧ f < n then n - 1 else n) ls (openTs u k ks 0 f)
def openTs (u : Te) (k : Int) : List Te → Int → Int → List Te
  | [], _, _ => []
  | x :: r, i, f => openT u x (f + binds k i) :: openTs u k r (i + 1) f
end
theorem kids13_le (k : Int) : kids13 k ≤ 3 := by unfold kids13; grind
theorem rightT_inv {p m k n v d : Int} {ls : List Lv} {ks : List Te} (h : rightT p m (.mk k n ls ks) v d = true) :
    1 ≤ d ∧ (ks.length : Int) = kids13 k ∧ (ls.all fun x => RightB x p m) = true ∧ namedB k n ls v = true ∧ rightTs p m k ks 0 v (d - 1) = true := by
  rw [rightT] at h
  split at h
  · cases h
  · split at h
    · cases h
    · split at h
      · cases h
      · rename_i h1 h2 h3
        simp at h3
        exact ⟨by omega, by simpa using h2, by simpa using h3.1, h3.2, h⟩
theorem rightTs_app {p m k v d : Int} : ∀ {a b : List Te} {i : Int}, rightTs p m k (a ++ b) i v d = true → rightTs p m k a i v d = true ∧ rightTs p m k b (i + a.length) v d = true
  | [], b, i, h => ⟨rfl, by simpa using h⟩
  | x :: a, b, i, h => by
    rw [List.cons_append, rightTs, Bool.and_eq_true] at h
    obtain ⟨h1, h2⟩ := rightTs_app h.2
    refine ⟨by rw [rightTs, h.1, h1]; rfl, ?_⟩
    have : i + ((x :: a).length : Int) = i + 1 + (a.length : Int) := by simp; omega
    rw [this]; exact h2
theorem rightTs_mid {p m k v d : Int} {a b : List Te} {x : Te} (h : rightTs p m k (a ++ x :: b) 0 v d = true) : rightT p m x (v + binds k a.length) d = true := by
  have := (rightTs_app h).2
  rw [rightTs, Bool.and_eq_true] at this
  simpa using this.1
theorem named_var {n v : Int} {ls : List Lv} (h : namedB 1 n ls v = true) : 0 ≤ n ∧ n < v ∧ ls = [] := by
  unfold namedB at h
  simp at h
  exact ⟨h.1.1, h.1.2, h.2⟩

theorem lift13_ok (p m b : Int) (hb : 0 ≤ b ∧ b ≤ 1000000) (t : Te) : t.ok → ∀ (v d f : Int), rightT p m t v d = true → d ≤ 1000 → 0 ≤ v ∧ v + d ≤ 1000000 → -1000000 ≤ f ∧ f + d ≤ 1000000 → ∀ (H : List AO),
    F ref13_lift [.agg t.cs, .int .i64 f, .int .i64 b] H = some (.ret (.agg (liftT b t f).cs), H) := by
  induction t using Te.ind with
  | h k n ls ks ih =>
  intro hl v d f hr hd hv hf H
  obtain ⟨hd1, hk, hls, hn, hks⟩ := rightT_inv hr
  have hk3 := kids13_le k
  have loop : ∀ (n' : Int) (suf pre done : List Te), ks = pre ++ suf → done.length = pre.length →
      L_ref13_lift_0 H (H ++ [.lst 0 3 [], .lst 0 4 [], .lst 0 3 [], .lst done.length 4 (Te.css done), .lst 0 3 [], .lst 0 4 []]) (.int .i64 f) (.int .i64 b) (.int .i64 pre.length) [.int .i64 k, .int .i64 n, .sl (Lv.css ls), .sl (Te.css ks)]
        [.int .i64 0, .int .i64 0, .ol H.length 0, .ol (H.length + 1) 0] [.int .i64 k, .int .i64 n', .sl (Lv.css ls), .ol (H.length + 3) done.length] = some (.ret (.agg (Te.mk k n' ls (done ++ liftTs b k suf pre.length f)).cs), H) := by
    intro n' suf
    induction suf with
    | nil =>
      intro pre done e he
      subst e
      rw [L_ref13_lift_0, awL_eq]
      simp only [↓reduceIte, go_sem, liftTs, Te.cs]
    | cons x suf ih2 =>
      intro pre done e he
      subst e
      simp at hk
      have := ih2 (pre ++ [x]) (done ++ [liftT b x (f + binds k pre.length)]) (by simp) (by simp [he])
      simp only [len_app] at this
      simp only [len_snoc, List.append_assoc, List.cons_append, List.nil_append] at this
      have hdl : done.length ≤ 1073741823 := by omega
      have hbr := binds_range k pre.length
      rw [L_ref13_lift_0, awL_eq, liftTs]
      simp only [↓reduceIte, go_sem, binds13_ok, wrap64 (n := f + binds k pre.length) (by omega) (by omega), ih x (by simp) (hl.all x (by simp)) (v + binds k pre.length) (d - 1) (f + binds k pre.length) (rightTs_mid hks) (by omega) (by omega) (by omega), nat_wrap (n := pre.length) (by omega), hdl, this]
  have l0 := fun n' => loop n' ks [] [] rfl rfl
  simp only [List.length_nil, Int.natCast_zero, List.nil_append, Te.css, Te.cs] at l0
  rw [f_ref13_lift, liftT]
  by_cases h1 : k = 1
  · subst h1
    obtain ⟨h2, h3, h4⟩ := named_var hn
    simp only [↓reduceIte, go_sem, Te.cs, wrap64 (n := n + b) (by omega) (by omega), l0]
    split <;> simp_all
  · simp only [↓reduceIte, go_sem, Te.cs, h1, l0, false_and]

/-- Lifting changes neither how many parts there are, nor how deep they are. -/
theorem css_ok {k n : Int} {ls : List Lv} {ks : List Te} (h : (Te.mk k n ls ks).ok) (n' : Int) {js : List Te} (hl : js.length = ks.length) (hj : ∀ x ∈ js, x.ok) : (Te.mk k n' ls js).ok := by
  cases h with
  | mk a b c d => exact .mk (by omega) b c hj
theorem liftTs_len (b k : Int) : ∀ (ks : List Te) (i f : Int), (liftTs b k ks i f).length = ks.length
  | [], _, _ => rfl
  | x :: r, i, f => by rw [liftTs]; simp [liftTs_len b k r]
theorem openTs_len (u : Te) (k : Int) : ∀ (ks : List Te) (i f : Int), (openTs u k ks i f).length = ks.length
  | [], _, _ => rfl
  | x :: r, i, f => by rw [openTs]; simp [openTs_len u k r]
theorem liftTs_mem {b k : Int} {p : Te → Prop} : ∀ {ks : List Te} {i f : Int}, (∀ x ∈ ks, ∀ f, p (liftT b x f)) → ∀ y ∈ liftTs b k ks i f, p y
  | [], _, _, _, y, hy => by cases hy
  | x :: r, i, f, h, y, hy => by
    rw [liftTs] at hy
    rcases List.mem_cons.1 hy with rfl | hy
    · exact h x (by simp) _
    · exact liftTs_mem (fun z hz => h z (by simp [hz])) y hy
theorem openTs_mem {u : Te} {k : Int} {p : Te → Prop} : ∀ {ks : List Te} {i f : Int}, (∀ x ∈ ks, ∀ f, p (openT u x f)) → ∀ y ∈ openTs u k ks i f, p y
  | [], _, _, _, y, hy => by cases hy
  | x :: r, i, f, h, y, hy => by
    rw [openTs] at hy
    rcases List.mem_cons.1 hy with rfl | hy
    · exact h x (by simp) _
    · exact openTs_mem (fun z hz => h z (by simp [hz])) y hy
theorem lift_ok (b : Int) (t : Te) : t.ok → ∀ f, (liftT b t f).ok := by
  induction t using Te.ind with
  | h k n ls ks ih => intro h f; rw [liftT]; exact css_ok h _ (liftTs_len _ _ _ _ _) (liftTs_mem fun x hx => ih x hx (h.all x hx))
theorem open_ok (u : Te) (hu : u.ok) (t : Te) : t.ok → ∀ f, (openT u t f).ok := by
  induction t using Te.ind with
  | h k n ls ks ih =>
    intro h f
    rw [openT]
    split
    · exact lift_ok f u hu 0
    · exact css_ok h _ (openTs_len _ _ _ _ _) (openTs_mem fun x hx => ih x hx (h.all x hx))

theorem open13_ok (p m : Int) (u : Te) (huk : u.ok) (vu du : Int) (hu : rightT p m u vu du = true) (hdu : du ≤ 1000) (hvu : 0 ≤ vu ∧ vu + du ≤ 1000000) (t : Te) : t.ok → ∀ (v d f : Int), rightT p m t v d = true → d ≤ 1000 → 0 ≤ v ∧ v + d ≤ 1000000 → 0 ≤ f ∧ f + d ≤ 1000000 → ∀ (H : List AO),
    F ref13_open [.agg t.cs, .int .i64 f, .agg u.cs] H = some (.ret (.agg (openT u t f).cs), H) := by
  induction t using Te.ind with
  | h k n ls ks ih =>
  intro hl v d f hr hd hv hf H
  obtain ⟨hd1, hk, hls, hn, hks⟩ := rightT_inv hr
  have hk3 := kids13_le k
  have loop : ∀ (n' : Int) (suf pre done : List Te), ks = pre ++ suf → done.length = pre.length →
      L_ref13_open_0 H (H ++ [.lst 0 3 [], .lst 0 4 [], .lst 0 3 [], .lst done.length 4 (Te.css done), .lst 0 3 [], .lst 0 4 []]) (.int .i64 f) (.int .i64 pre.length) [.int .i64 k, .int .i64 n, .sl (Lv.css ls), .sl (Te.css ks)] u.cs
        [.int .i64 0, .int .i64 0, .ol H.length 0, .ol (H.length + 1) 0] [.int .i64 k, .int .i64 n', .sl (Lv.css ls), .ol (H.length + 3) done.length] = some (.ret (.agg (Te.mk k n' ls (done ++ openTs u k suf pre.length f)).cs), H) := by
    intro n' suf
    induction suf with
    | nil =>
      intro pre done e he
      subst e
      rw [L_ref13_open_0, awL_eq]
      simp only [↓reduceIte, go_sem, openTs, Te.cs]
    | cons x suf ih2 =>
      intro pre done e he
      subst e
      simp at hk
      have := ih2 (pre ++ [x]) (done ++ [openT u x (f + binds k pre.length)]) (by simp) (by simp [he])
      simp only [len_app] at this
      simp only [len_snoc, List.append_assoc, List.cons_append, List.nil_append] at this
      have hdl : done.length ≤ 1073741823 := by omega
      have hbr := binds_range k pre.length
      rw [L_ref13_open_0, awL_eq, openTs]
      simp only [↓reduceIte, go_sem, binds13_ok, wrap64 (n := f + binds k pre.length) (by omega) (by omega), ih x (by simp) (hl.all x (by simp)) (v + binds k pre.length) (d - 1) (f + binds k pre.length) (rightTs_mid hks) (by omega) (by omega) (by omega), nat_wrap (n := pre.length) (by omega), hdl, this]
  have l0 := fun n' => loop n' ks [] [] rfl rfl
  simp only [List.length_nil, Int.natCast_zero, List.nil_append, Te.css, Te.cs] at l0
  have hL := fun h1 => lift13_ok p m f ⟨h1, by omega⟩ u huk vu du 0 hu hdu hvu (by omega)
  rw [f_ref13_open, openT]
  by_cases h1 : k = 1
  · subst h1
    obtain ⟨h2, h3, h4⟩ := named_var hn
    by_cases h5 : n = f
    · simp only [↓reduceIte, go_sem, Te.cs, h5, hL hf.1, and_self]
    · simp only [↓reduceIte, go_sem, Te.cs, wrap64 (n := n - 1) (by omega) (by omega), l0, h5]
      split <;> simp_all
  · simp only [↓reduceIte, go_sem, Te.cs, h1, l0, false_and]
end Go.Ab
