/- Terms: what the document tells. Conditions: none. -/
import Derived.Test.YtnkblnmcabfbmaaTl
set_option linter.unusedVariables false
set_option linter.unusedSimpArgs false
set_option maxRecDepth 100000
set_option maxHeartbeats 2000000
namespace Go.Ab
open Go.RowKit Go.Proofs

def zeroT : Te := .mk 0 0 [] []
theorem shape_inv {t : Te} (h : ShapeB t = true) : rightT 5 10 t 1000 30 = true := by
  unfold ShapeB RightT at h
  simp at h
  exact h.2
def toldT (t : Te) : Te × Int := if ShapeB t = true then (t, 0) else (zeroT, 2)
/-- A term, and an error. -/
abbrev resT (x : Te × Int) : AV := .tup [.agg x.1.cs, .int .i64 x.2]
def LiftS (t : Te) (f b : Int) : Te × Int := if ShapeB t = false ∨ f < 0 ∨ 1000 < f ∨ b < 0 ∨ 1000 < b then (zeroT, 1) else toldT (liftT b t f)
def OpenS (t u : Te) : Te × Int := if ShapeB t = false ∨ ShapeB u = false then (zeroT, 1) else toldT (openT u t 0)

theorem Lift13_ok (t : Te) (hl : t.ok) (f b : Int) (H : List AO) : F ref13_Lift [.agg t.cs, .int .i64 f, .int .i64 b] H = some (.ret (resT (LiftS t f b)), H) := by
  rw [f_ref13_Lift, LiftS]
  by_cases h : ShapeB t = false ∨ f < 0 ∨ 1000 < f ∨ b < 0 ∨ 1000 < b
  · simp only [h, ↓reduceIte]
    by_cases h1 : ShapeB t = true
    · simp [h1] at h
      by_cases h2 : f < 0
      · simp only [↓reduceIte, go_sem, Shape13_ok t hl, h1, h2, resT, zeroT, Te.cs, Lv.css, Te.css]
      by_cases h3 : 1000 < f
      · simp only [↓reduceIte, go_sem, Shape13_ok t hl, h1, h2, h3, resT, zeroT, Te.cs, Lv.css, Te.css]
      by_cases h4 : b < 0
      · simp only [↓reduceIte, go_sem, Shape13_ok t hl, h1, h2, h3, h4, resT, zeroT, Te.cs, Lv.css, Te.css]
      have h5 : 1000 < b := by omega
      simp only [↓reduceIte, go_sem, Shape13_ok t hl, h1, h2, h3, h4, h5, resT, zeroT, Te.cs, Lv.css, Te.css]
    · simp only [Bool.not_eq_true] at h1
      simp only [↓reduceIte, go_sem, Shape13_ok t hl, h1, resT, zeroT, Te.cs, Lv.css, Te.css]
  · simp only [h, ↓reduceIte]
    simp at h
    have hs := shape_inv h.1
    have h2 : ¬ f < 0 := by omega
    have h3 : ¬ 1000 < f := by omega
    have h4 : ¬ b < 0 := by omega
    have h5 : ¬ 1000 < b := by omega
    have hL := lift13_ok 5 10 b (by omega) t hl 1000 30 f hs (by omega) (by omega) (by omega)
    have ho := Shape13_ok _ (lift_ok b t hl f)
    unfold toldT resT
    simp only [↓reduceIte, go_sem, Shape13_ok t hl, h.1, h2, h3, h4, h5, hL, ho, resT, zeroT, Te.cs, Lv.css, Te.css]
    cases ShapeB (liftT b t f) <;> simp [Te.cs, Lv.css, Te.css]
theorem Open13_ok (t u : Te) (hl : t.ok) (hu : u.ok) (H : List AO) : F ref13_Open [.agg t.cs, .agg u.cs] H = some (.ret (resT (OpenS t u)), H) := by
  rw [f_ref13_Open, OpenS]
  by_cases h : ShapeB t = false ∨ ShapeB u = false
  · simp only [h, ↓reduceIte]
    cases h1 : ShapeB t with
    | true =>
      have h2 : ShapeB u = false := by simpa [h1] using h
      simp only [↓reduceIte, go_sem, Shape13_ok t hl, Shape13_ok u hu, h1, h2, resT, zeroT, Te.cs, Lv.css, Te.css]
    | false => simp only [↓reduceIte, go_sem, Shape13_ok t hl, h1, resT, zeroT, Te.cs, Lv.css, Te.css]
  · simp only [h, ↓reduceIte]
    simp at h
    have hO := open13_ok 5 10 u hu 1000 30 (shape_inv h.2) (by omega) (by omega) t hl 1000 30 0 (shape_inv h.1) (by omega) (by omega) (by omega)
    have ho := Shape13_ok _ (open_ok u hu t hl 0)
    unfold toldT resT
    simp only [↓reduceIte, go_sem, Shape13_ok t hl, Shape13_ok u hu, h.1, h.2, hO, ho, resT, zeroT, Te.cs, Lv.css, Te.css]
    cases ShapeB (openT u t 0) <;> simp [Te.cs, Lv.css, Te.css]

mutual
def freeT : Te → Int
  | .mk k n ls ks => freeTs k ks 0 (if k = 1 then n + 1 else 0)
def freeTs (k : Int) : List Te → Int → Int → Int
  | [], _, a => a
  | x :: r, i, a => freeTs k r (i + 1) (if freeT x - binds k i > a then freeT x - binds k i else a)
end
theorem freeTs_ge (k : Int) : ∀ (ks : List Te) (i a : Int), a ≤ freeTs k ks i a
  | [], _, _ => by rw [freeTs]; omega
  | x :: r, i, a => by
    rw [freeTs]
    have := freeTs_ge k r (i + 1) (if freeT x - binds k i > a then freeT x - binds k i else a)
    refine Int.le_trans ?_ this
    split <;> omega
theorem freeT_ge {p m v d : Int} {t : Te} (h : rightT p m t v d = true) : 0 ≤ freeT t := by
  obtain ⟨k, n, ls, ks⟩ := t
  obtain ⟨_, _, _, hn, _⟩ := rightT_inv h
  rw [freeT]
  have := freeTs_ge k ks 0 (if k = 1 then n + 1 else 0)
  by_cases h1 : k = 1
  · subst h1
    obtain ⟨h2, _⟩ := named_var hn
    simp at this ⊢
    omega
  · simp [h1] at this ⊢
    exact this
theorem freeTs_le {p m k v d : Int} : ∀ {ks : List Te} {i a : Int}, (∀ x ∈ ks, ∀ v, rightT p m x v d = true → 0 ≤ v → freeT x ≤ v) → rightTs p m k ks i v d = true → 0 ≤ v → a ≤ v → freeTs k ks i a ≤ v
  | [], i, a, _, _, _, h => by rw [freeTs]; exact h
  | x :: r, i, a, hx, hr, hv, ha => by
    rw [rightTs, Bool.and_eq_true] at hr
    have hb := binds_range k i
    have := hx x (by simp) _ hr.1 (by omega)
    rw [freeTs]
    exact freeTs_le (fun y hy => hx y (by simp [hy])) hr.2 hv (by split <;> omega)
theorem freeT_le (p m : Int) (t : Te) : ∀ (v d : Int), rightT p m t v d = true → 0 ≤ v → freeT t ≤ v := by
  induction t using Te.ind with
  | h k n ls ks ih =>
    intro v d h hv
    obtain ⟨_, _, _, hn, hks⟩ := rightT_inv h
    rw [freeT]
    refine freeTs_le (fun x hx v hr hv => ih x hx v _ hr hv) hks hv ?_
    by_cases h1 : k = 1
    · subst h1
      obtain ⟨h2, h3, _⟩ := named_var hn
      simp
      omega
    · simp [h1]
      exact hv

theorem free13_ok (p m : Int) (t : Te) : t.ok → ∀ (v d : Int), rightT p m t v d = true → d ≤ 1000 → 0 ≤ v ∧ v + d ≤ 1000000 → ∀ (H : List AO), F ref13_Free [.agg t.cs] H = some (.ret (.int .i64 (freeT t)), H) := by
  induction t using Te.ind with
  | h k n ls ks ih =>
  intro hl v d hr hd hv H
  obtain ⟨hd1, hk, hls, hn, hks⟩ := rightT_inv hr
  have hk3 := kids13_le k
  have loop : ∀ (suf pre : List Te) (a : Int), ks = pre ++ suf →
      L_ref13_Free_0 H H (.int .i64 a) (.int .i64 pre.length) [.int .i64 k, .int .i64 n, .sl (Lv.css ls), .sl (Te.css ks)] = some (.ret (.int .i64 (freeTs k suf pre.length a)), H) := by
    intro suf
    induction suf with
    | nil =>
      intro pre a e
      subst e
      rw [L_ref13_Free_0, awL_eq]
      simp only [↓reduceIte, go_sem, freeTs]
    | cons x suf ih2 =>
      intro pre a e
      subst e
      simp at hk
      have := ih2 (pre ++ [x]) (if freeT x - binds k pre.length > a then freeT x - binds k pre.length else a) (by simp)
      simp only [len_app] at this
      have hbr := binds_range k pre.length
      have hx := rightTs_mid hks
      have h1 := freeT_ge hx
      have h2 := freeT_le p m x _ _ hx (by omega)
      rw [L_ref13_Free_0, awL_eq, freeTs]
      simp only [↓reduceIte, go_sem, binds13_ok, ih x (by simp) (hl.all x (by simp)) _ _ hx (by omega) (by omega), wrap64 (n := freeT x - binds k pre.length) (by omega) (by omega), nat_wrap (n := pre.length) (by omega), this]
  have l0 := fun a => loop ks [] a rfl
  simp only [List.length_nil, Int.natCast_zero] at l0
  rw [f_ref13_Free, freeT]
  by_cases h1 : k = 1
  · subst h1
    obtain ⟨h2, h3, _⟩ := named_var hn
    simp only [↓reduceIte, go_sem, Te.cs, wrap64 (n := n + 1) (by omega) (by omega), l0]
  · simp only [↓reduceIte, go_sem, Te.cs, h1, l0]
end Go.Ab
