/- Lifting and putting in: plain laws. Conditions: none. -/
import Derived.Test.YtnkblnmcabfbmaaTl
import Derived.Test.YtnkblnmcabfbmaaTx
set_option linter.unusedVariables false
set_option linter.unusedSimpArgs false
namespace Go.Ab
open Go.RowKit Go.Proofs

/-! The identities -/
mutual
theorem open_lift1 (u : Te) : ∀ (t : Te) (f : Int), openT u (liftT 1 t f) f = t
  | .mk k n ls ks, f => by
    rw [liftT, openT]
    by_cases hk : k = 1 ∧ f ≤ n
    · rw [if_pos hk, if_neg (by omega), if_pos (by omega), open_lift1s u k ks 0 f]
      congr 1; omega
    · rw [if_neg hk, if_neg (by omega), if_neg (by omega), open_lift1s u k ks 0 f]
theorem open_lift1s (u : Te) (k : Int) : ∀ (ks : List Te) (i f : Int), openTs u k (liftTs 1 k ks i f) i f = ks
  | [], _, _ => rfl
  | x :: r, i, f => by rw [liftTs, openTs, open_lift1 u x, open_lift1s u k r]
end
mutual
/-- Lift by i, then by j from between: lift by both. -/
theorem lift_lift (i j e : Int) (he : 0 ≤ e ∧ e ≤ i) : ∀ (t : Te) (c : Int), liftT j (liftT i t c) (c + e) = liftT (i + j) t c
  | .mk k n ls ks, c => by
    rw [liftT, liftT, liftT, lift_lifts i j e he k ks 0 c]
    congr 1
    by_cases hk : k = 1 ∧ c ≤ n
    · rw [if_pos hk, if_pos (by omega), if_pos hk]; omega
    · rw [if_neg hk, if_neg (by omega), if_neg hk]
theorem lift_lifts (i j e : Int) (he : 0 ≤ e ∧ e ≤ i) (k : Int) : ∀ (ks : List Te) (q c : Int), liftTs j k (liftTs i k ks q c) q (c + e) = liftTs (i + j) k ks q c
  | [], _, _ => rfl
  | x :: r, q, c => by
    rw [liftTs, liftTs, liftTs, lift_lifts i j e he k r, ← lift_lift i j e he x]
    congr 2; omega
end
mutual
theorem open_lift (w : Te) (j : Int) (hj : 0 ≤ j) : ∀ (t : Te) (c : Int), openT w (liftT (j + 1) t c) (c + j) = liftT j t c
  | .mk k n ls ks, c => by
    rw [liftT, liftT, openT, open_lifts w j hj k ks 0 c]
    by_cases hk : k = 1 ∧ c ≤ n
    · rw [if_pos hk, if_neg (by omega), if_pos (by omega), if_pos hk]
      congr 1; omega
    · rw [if_neg hk, if_neg (by omega), if_neg (by omega), if_neg hk]
theorem open_lifts (w : Te) (j : Int) (hj : 0 ≤ j) (k : Int) : ∀ (ks : List Te) (q c : Int), openTs w k (liftTs (j + 1) k ks q c) q (c + j) = liftTs j k ks q c
  | [], _, _ => rfl
  | x :: r, q, c => by
    rw [liftTs, liftTs, openTs, open_lifts w j hj k r, ← open_lift w j hj x]
    congr 2; omega
end
mutual
theorem open_lift_comm (v : Te) (j : Int) (hj : 0 ≤ j) : ∀ (t : Te) (i : Int), 0 ≤ i → openT v (liftT j t i) (j + i) = liftT j (openT v t i) i
  | .mk k n ls ks, i, hi => by
    rw [liftT, openT, openT]
    by_cases h1 : k = 1 ∧ n = i
    · have e1 : (k = 1 ∧ (if k = 1 ∧ i ≤ n then n + j else n) = j + i) := ⟨h1.1, by rw [if_pos (by omega)]; omega⟩
      rw [if_pos h1, if_pos e1]
      have := lift_lift i j i (by omega) v 0
      rw [show (0 : Int) + i = i by omega] at this
      rw [this, Int.add_comm]
    · have e1 : ¬ (k = 1 ∧ (if k = 1 ∧ i ≤ n then n + j else n) = j + i) := by split <;> omega
      rw [if_neg h1, if_neg e1, liftT, open_lift_comms v j hj k ks 0 i hi]
      congr 1
      by_cases h2 : k = 1 ∧ i < n
      · have e2 : k = 1 ∧ i ≤ n := by omega
        have e3 : k = 1 ∧ j + i < n + j := by omega
        have e4 : k = 1 ∧ i ≤ n - 1 := by omega
        simp only [h2, e2, e3, e4, if_true, and_self]
        omega
      · have e2 : ¬ (k = 1 ∧ i ≤ n) := by omega
        have e3 : ¬ (k = 1 ∧ j + i < n) := by omega
        simp only [h2, e2, e3, if_false]
theorem open_lift_comms (v : Te) (j : Int) (hj : 0 ≤ j) (k : Int) : ∀ (ks : List Te) (q i : Int), 0 ≤ i → openTs v k (liftTs j k ks q i) q (j + i) = liftTs j k (openTs v k ks q i) q i
  | [], _, _, _ => rfl
  | x :: r, q, i, hi => by
    have := binds_range k q
    rw [liftTs, openTs, openTs, liftTs, open_lift_comms v j hj k r _ _ hi, ← open_lift_comm v j hj x _ (by omega)]
    congr 2; omega
end
mutual
theorem open_open (u v : Te) : ∀ (t : Te) (j : Int), 0 ≤ j → openT v (openT u t j) j = openT (openT v u 0) (openT v t (j + 1)) j
  | .mk k n ls ks, j, hj => by
    by_cases h1 : k = 1 ∧ n = j
    · rw [openT, if_pos h1, openT, if_neg (by omega), openT, if_pos (by omega)]
      have := open_lift_comm v j hj u 0 (by omega)
      rw [show j + 0 = j by omega] at this
      exact this
    · rw [openT, if_neg h1]
      by_cases h2 : k = 1 ∧ n = j + 1
      · rw [openT, if_pos (by omega), openT, if_pos h2]
        have := open_lift (openT v u 0) j hj v 0
        rw [show (0 : Int) + j = j by omega] at this
        exact this.symm
      · rw [openT, openT, if_neg h2, openT, open_opens u v k ks 0 j hj]
        by_cases h3 : k = 1 ∧ j < n
        · have e1 : ¬ (n - 1 = j) := by omega
          have e2 : k = 1 ∧ j < n - 1 := by omega
          have e3 : k = 1 ∧ j + 1 < n := by omega
          simp only [h3, e1, e2, e3, if_true, if_false, and_self, and_false, openT]
        · have e1 : ¬ (k = 1 ∧ j + 1 < n) := by omega
          simp only [h1, h3, e1, if_false, openT]
theorem open_opens (u v : Te) (k : Int) : ∀ (ks : List Te) (q j : Int), 0 ≤ j → openTs v k (openTs u k ks q j) q j = openTs (openT v u 0) k (openTs v k ks q (j + 1)) q j
  | [], _, _, _ => rfl
  | x :: r, q, j, hj => by
    have := binds_range k q
    rw [openTs, openTs, openTs, openTs, open_opens u v k r _ _ hj, open_open u v x _ (by omega)]
    congr 3; omega
end

/-! What is right stays so -/
mutual
theorem right_mono {p m : Int} : ∀ (t : Te) {v d v' d' : Int}, rightT p m t v d = true → v ≤ v' → d ≤ d' → rightT p m t v' d' = true
  | .mk k n ls ks, v, d, v', d', h, hv, hd => by
    obtain ⟨h1, h2, h3, h4, h5⟩ := rightT_inv h
    have h6 : namedB k n ls v' = true := by
      unfold namedB at h4 ⊢
      split at h4
      · rename_i e; rw [if_pos e]; simp at h4 ⊢; refine ⟨⟨h4.1.1, by omega⟩, h4.2⟩
      · rename_i e; rw [if_neg e]; exact h4
    rw [rightT, if_neg (by omega), if_neg (by simpa using h2), if_neg (by rw [h3, h6]; simp), rights_mono ks h5 hv (by omega)]
theorem rights_mono {p m k : Int} : ∀ (ks : List Te) {i v d v' d' : Int}, rightTs p m k ks i v d = true → v ≤ v' → d ≤ d' → rightTs p m k ks i v' d' = true
  | [], _, _, _, _, _, _, _, _ => rfl
  | x :: r, i, v, d, v', d', h, hv, hd => by
    rw [rightTs, Bool.and_eq_true] at h
    rw [rightTs, right_mono x h.1 (by omega) hd, rights_mono r h.2 hv hd]; rfl
end
mutual
theorem right_lift {p m b : Int} (hb : 0 ≤ b) : ∀ (t : Te) {v d : Int} (f : Int), rightT p m t v d = true → rightT p m (liftT b t f) (v + b) d = true
  | .mk k n ls ks, v, d, f, h => by
    obtain ⟨h1, h2, h3, h4, h5⟩ := rightT_inv h
    have h6 : namedB k (if k = 1 ∧ f ≤ n then n + b else n) ls (v + b) = true := by
      by_cases e : k = 1
      · subst e
        obtain ⟨a1, a2, rfl⟩ := named_var h4
        unfold namedB
        rw [if_pos rfl]
        split <;> simp <;> omega
      · rw [if_neg (by omega)]
        unfold namedB at h4 ⊢
        rw [if_neg e] at h4 ⊢
        exact h4
    rw [liftT, rightT, if_neg (by omega), if_neg (by rw [liftTs_len]; simpa using h2), if_neg (by rw [h3, h6]; simp), rights_lift hb ks f h5]
theorem rights_lift {p m b k : Int} (hb : 0 ≤ b) : ∀ (ks : List Te) {i v d : Int} (f : Int), rightTs p m k ks i v d = true → rightTs p m k (liftTs b k ks i f) i (v + b) d = true
  | [], _, _, _, _, _ => rfl
  | x :: r, i, v, d, f, h => by
    rw [rightTs, Bool.and_eq_true] at h
    have := right_lift hb x (f + binds k i) h.1
    rw [show v + binds k i + b = v + b + binds k i by omega] at this
    rw [liftTs, rightTs, this, rights_lift hb r f h.2]; rfl
end
mutual
theorem right_open {p m du : Int} {u : Te} : ∀ (t : Te) {v d f : Int}, rightT p m t (v + 1) d = true → 0 ≤ f → f ≤ v → rightT p m u (v - f) du = true → rightT p m (openT u t f) v (d + du) = true
  | .mk k n ls ks, v, d, f, h, hf, hv, hu => by
    obtain ⟨h1, h2, h3, h4, h5⟩ := rightT_inv h
    have hdu : 1 ≤ du := by cases u; exact (rightT_inv hu).1
    by_cases e : k = 1 ∧ n = f
    · rw [openT, if_pos e]
      have := right_lift hf u 0 hu
      rw [show v - f + f = v by omega] at this
      exact right_mono _ this (by omega) (by omega)
    · have h6 : namedB k (if k = 1 ∧ f < n then n - 1 else n) ls v = true := by
        by_cases e1 : k = 1
        · subst e1
          obtain ⟨a1, a2, rfl⟩ := named_var h4
          unfold namedB
          rw [if_pos rfl]
          have : n ≠ f := fun x => e ⟨rfl, x⟩
          split <;> simp <;> omega
        · rw [if_neg (by omega)]
          unfold namedB at h4 ⊢
          rw [if_neg e1] at h4 ⊢
          exact h4
      rw [openT, if_neg e, rightT, if_neg (by omega), if_neg (by rw [openTs_len]; simpa using h2), if_neg (by rw [h3, h6]; simp)]
      have := rights_open ks h5 hf hv hu
      rw [show d - 1 + du = d + du - 1 by omega] at this
      exact this
theorem rights_open {p m du k : Int} {u : Te} : ∀ (ks : List Te) {i v d f : Int}, rightTs p m k ks i (v + 1) d = true → 0 ≤ f → f ≤ v → rightT p m u (v - f) du = true → rightTs p m k (openTs u k ks i f) i v (d + du) = true
  | [], _, _, _, _, _, _, _, _ => rfl
  | x :: r, i, v, d, f, h, hf, hv, hu => by
    have hb := binds_range k i
    rw [rightTs, Bool.and_eq_true] at h
    have h1 := h.1
    rw [show v + 1 + binds k i = v + binds k i + 1 by omega] at h1
    have := right_open x (f := f + binds k i) h1 (by omega) (by omega) (by rw [show v + binds k i - (f + binds k i) = v - f by omega]; exact hu)
    rw [openTs, rightTs, this, rights_open r h.2 hf hv hu]; rfl
end

/-! How great -/
mutual
def wt (x : Nat) : Te → Nat
  | .mk k n ls ks => (if k = 1 then x else 1) + wts x ks
def wts (x : Nat) : List Te → Nat
  | [] => 0
  | t :: r => wt x t + wts x r
end
mutual
theorem parts_wt : ∀ (t : Te) (most : Int), parts t most ≤ wt 1 t
  | .mk k n ls ks, most => by
    have := parts_wts ks most 1
    rw [parts, wt]
    split <;> omega
theorem parts_wts : ∀ (ks : List Te) (most n : Int), partsL ks most n ≤ n + wts 1 ks
  | [], _, n => by rw [partsL, wts]; omega
  | x :: r, most, n => by
    have h1 := parts_wt x (most - n)
    have h2 := parts_wts r most (n + parts x (most - n))
    rw [partsL, wts]
    split <;> omega
end
mutual
theorem wt_lift (x : Nat) (b : Int) : ∀ (t : Te) (f : Int), wt x (liftT b t f) = wt x t
  | .mk k n ls ks, f => by rw [liftT, wt, wt, wts_lift x b k ks]
theorem wts_lift (x : Nat) (b k : Int) : ∀ (ks : List Te) (i f : Int), wts x (liftTs b k ks i f) = wts x ks
  | [], _, _ => rfl
  | t :: r, i, f => by rw [liftTs, wts, wts, wt_lift x b t, wts_lift x b k r]
end
mutual
theorem wt_open {x X : Nat} {u : Te} (hx : x ≤ X) (hu : wt x u ≤ X) : ∀ (t : Te) (f : Int), wt x (openT u t f) ≤ wt X t
  | .mk k n ls ks, f => by
    have := wts_open hx hu k ks 0 f
    rw [openT]
    by_cases e : k = 1 ∧ n = f
    · rw [if_pos e, wt_lift, wt, if_pos e.1]; omega
    · rw [if_neg e, wt, wt]; split <;> omega
theorem wts_open {x X : Nat} {u : Te} (hx : x ≤ X) (hu : wt x u ≤ X) (k : Int) : ∀ (ks : List Te) (i f : Int), wts x (openTs u k ks i f) ≤ wts X ks
  | [], _, _ => Nat.le_refl _
  | t :: r, i, f => by
    have h1 := wt_open hx hu t (f + binds k i)
    have h2 := wts_open hx hu k r (i + 1) f
    rw [openTs, wts, wts]; omega
end
theorem shapeB_of {t : Te} {v d : Int} (h : rightT 5 10 t v d = true) (hv : v ≤ 1000) (hd : d ≤ 30) (hw : wt 1 t ≤ 600) : ShapeB t = true := by
  have h1 := parts_wt t 601
  have h2 := right_mono t h hv hd
  unfold ShapeB RightT
  simp [h2]; omega
end Go.Ab
