/- What is named in a level: the whole iterator. Conditions: none. -/
import Derived.Test.YtgcegmmobpibbaaLn
set_option linter.unusedVariables false
set_option linter.unusedSimpArgs false
set_option maxRecDepth 100000
set_option maxHeartbeats 2000000
namespace Go.Ab
open Go.RowKit Go.Proofs

/-! ### Marks that rounds leave behind -/
def jk : Nat → List AO
  | 0 => []
  | m + 1 => jk m ++ [.dfr, .dead]
def dsl (b : Nat) : Nat → List Nat
  | 0 => []
  | m + 1 => (b + 2 * m) :: dsl b m
theorem jk_len : ∀ m, (jk m).length = 2 * m
  | 0 => rfl
  | m + 1 => by rw [jk, List.length_append, jk_len m]; simp; omega
theorem jk_at (A Z : List AO) (m : Nat) : (A ++ (jk (m + 1) ++ Z))[A.length + 2 * m]? = some .dfr := by
  rw [List.getElem?_append_right (by omega), show A.length + 2 * m - A.length = 2 * m by omega, jk, List.append_assoc, List.getElem?_append_right (by rw [jk_len]; omega), jk_len]
  simp
theorem dsl_range (b : Nat) : ∀ m, ∀ i ∈ dsl b m, b ≤ i ∧ i < b + 2 * m
  | 0, i, h => by simp [dsl] at h
  | m + 1, i, h => by
    simp [dsl] at h
    rcases h with rfl | h
    · omega
    · have := dsl_range b m i h; omega
theorem dsl_nodup (b : Nat) : ∀ m, (dsl b m).Nodup
  | 0 => by simp [dsl]
  | m + 1 => by
    rw [dsl, List.nodup_cons]
    exact ⟨fun h => by have := dsl_range b m _ h; omega, dsl_nodup b m⟩
theorem dfrs_jk (A : List AO) : ∀ (m : Nat) (Z : List AO), dfrs (A ++ (jk m ++ Z)) (dsl A.length m) = true
  | 0, Z => rfl
  | m + 1, Z => by
    rw [dsl, dfrs, jk_at]
    dsimp only
    have := dfrs_jk A m ([.dfr, .dead] ++ Z)
    rw [jk, List.append_assoc]
    exact this
theorem inRd_jk (A : List AO) : ∀ (m : Nat) (Z : List AO), inRd (A ++ (jk m ++ Z)) (dsl A.length m) = false
  | 0, Z => rfl
  | 1, Z => by
    have := jk_at A Z 0
    simp only [dsl, inRd, Nat.mul_zero, Nat.add_zero] at this ⊢
    rw [this]
  | m + 2, Z => rfl
theorem set_jk (A Z : List AO) (m : Nat) : ∃ D, D.length = 2 ∧ (A ++ (jk (m + 1) ++ Z)).set (A.length + 2 * m) .dead = A ++ (jk m ++ (D ++ Z)) := by
  refine ⟨[.dead, .dead], rfl, ?_⟩
  rw [List.set_append_right _ _ (by omega), show A.length + 2 * m - A.length = 2 * m by omega, jk, List.append_assoc, List.set_append_right _ _ (by rw [jk_len]; omega), jk_len]
  simp
theorem clean_jk (A : List AO) : ∀ (m : Nat) (Z : List AO), ∃ D, D.length = 2 * m + Z.length ∧ clean (A ++ (jk m ++ Z)) (dsl A.length m) = A ++ D
  | 0, Z => ⟨Z, by simp, rfl⟩
  | m + 1, Z => by
    obtain ⟨D, hD, e⟩ := set_jk A Z m
    obtain ⟨D', hD', e'⟩ := clean_jk A m (D ++ Z)
    refine ⟨D', by simp at hD'; omega, ?_⟩
    rw [dsl, clean, e, e']
theorem finF_jk {A H0 : List AO} (hA : A.length = H0.length) (m : Nat) : ∃ D : List AO, ∀ (rs : List RS) (o : Out) (t : Ts) (ls : List (Nat × List AV)), finF H0 rs o ⟨t, ls, A ++ jk m, dsl A.length m⟩ = finF H0 rs o ⟨t, ls, A ++ D, []⟩ := by
  obtain ⟨D, _, e⟩ := clean_jk A m []
  rw [List.append_nil] at e
  refine ⟨D, fun rs o t ls => ?_⟩
  cases m with
  | zero => simp only [dsl, clean] at e; rw [dsl, e]
  | succ m =>
    have h1 : ∀ i ∈ dsl A.length (m + 1), H0.length ≤ i := fun i hi => by have := dsl_range _ _ i hi; omega
    have h2 := dsl_nodup A.length (m + 1)
    rw [dsl] at h1 h2 e ⊢
    rw [finF_ds, if_pos ⟨h1, h2⟩, e]
theorem finY_jk {S E α : Type} {y : AV} {n : Nat} {enc : α → List AV} {W : S → List AO} {WE : E → List AO} {stp : S → α → Option (S ⊕ E)} (hy : Ys y n enc W WE stp) (s : S) (r : S ⊕ E) (X : List AO) (m : Nat) {o : Out} (ho : o = .normal ∨ o = .ret) (t : Ts) (ls : List (Nat × List AV)) :
    finF (W s ++ X) [] o ⟨t, ls, hp W WE r ++ (X ++ jk m), dsl (n + X.length) m⟩ = some (.ret (.tup []), hp W WE r ++ X) := by
  have l1 : (W s).length = n := hy.len (.inl s)
  have l2 := hy.len r
  obtain ⟨D, e⟩ := finF_jk (A := hp W WE r ++ X) (H0 := W s ++ X) (by simp [l1, l2]) m
  rw [← List.append_assoc, show n + X.length = (hp W WE r ++ X).length by simp [l2], e]
  have hf := fin1_yd (H := W s) (A := hp W WE r) (X := X) (J := D) (r := .ret (.tup [])) (by rw [l1, l2]) (by rw [l1]; exact hy.fr s r) (show Lt _ _ from .tup (by simp))
  rcases ho with rfl | rfl
  · rw [finF_normal]; simp only [rvals]; exact hf
  · rw [finF_ret]; simp only [rvals]; exact hf

end Go.Ab
