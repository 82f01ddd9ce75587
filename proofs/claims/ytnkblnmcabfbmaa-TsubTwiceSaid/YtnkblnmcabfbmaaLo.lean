/- What is named in a level: the whole iterator. Conditions: none. -/
import Derived.Test.YtnkblnmcabfbmaaLn
set_option linter.unusedVariables false
set_option linter.unusedSimpArgs false
set_option maxRecDepth 100000
set_option maxHeartbeats 2000000
namespace Go.Ab
open Go.RowKit Go.Proofs

/-! ### Marks that rounds leave behind -/
def jk : Nat → List AO
  | 0 => []
  | m + 1 => jk m ++ [.dfr, .dead]
def dsl (b : Nat) : Nat → List Nat
  | 0 => []
  | m + 1 => (b + 2 * m) :: dsl b m
theorem jk_len : ∀ m, (jk m).length = 2 * m
  | 0 => rfl
  | m + 1 => by rw [jk, List.length_append, jk_len m]; simp; omega
theorem jk_at (A Z : List AO) (m : Nat) : (A ++ (jk (m + 1) ++ Z))[A.length + 2 * m]? = some .dfr := by
  rw [List.getElem?_append_right (by omega), show A.length + 2 * m - A.length = 2 * m by omega, jk, List.append_assoc, List.getElem?_append_right (by rw [jk_len]; omega), jk_len]
  simp
theorem dsl_range (b : Nat) : ∀ m, ∀ i ∈ dsl b m, b ≤ i ∧ i < b + 2 * m
  | 0, i, h => by simp [dsl] at h
  | m + 1, i, h => by
    simp [dsl] at h
    rcases h with rfl | h
    · omega
    · have := dsl_range b m i h; omega
theorem dsl_nodup (b : Nat) : ∀ m, (dsl b m).Nodup
  | 0 => by simp [dsl]
  | m + 1 => by
    rw [dsl, List.nodup_cons]
    exact ⟨fun h => by have := dsl_range b m _ h; omega, dsl_nodup b m⟩
theorem dfrs_jk (A : List AO) : ∀ (m : Nat) (Z : List AO), dfrs (A ++ (jk m ++ Z)) (dsl A.length m) = true
  | 0, Z => rfl
  | m + 1, Z => by
    rw [dsl, dfrs, jk_at]
    dsimp only
    have := dfrs_jk A m ([.dfr, .dead] ++ Z)
    rw [jk, List.append_assoc]
    exact this
theorem inRd_jk (A : List AO) : ∀ (m : Nat) (Z : List AO), inRd (A ++ (jk m ++ Z)) (dsl A.length m) = false
  | 0, Z => rfl
  | 1, Z => by
    have := jk_at A Z 0
    simp only [dsl, inRd, Nat.mul_zero, Nat.add_zero] at this ⊢
    rw [this]
  | m + 2, Z => rfl
theorem set_jk (A Z : List AO) (m : Nat) : ∃ D, D.length = 2 ∧ (A ++ (jk (m + 1) ++ Z)).set (A.length + 2 * m) .dead = A ++ (jk m ++ (D ++ Z)) := by
  refine ⟨[.dead, .dead], rfl, ?_⟩
  rw [List.set_append_right _ _ (by omega), show A.length + 2 * m - A.length = 2 * m by omega, jk, List.append_assoc, List.set_append_right _ _ (by rw [jk_len]; omega), jk_len]
  simp
theorem clean_jk (A : List AO) : ∀ (m : Nat) (Z : List AO), ∃ D, D.length = 2 * m + Z.length ∧ clean (A ++ (jk m ++ Z)) (dsl A.length m) = A ++ D
  | 0, Z => ⟨Z, by simp, rfl⟩
  | m + 1, Z => by
    obtain ⟨D, hD, e⟩ := set_jk A Z m
    obtain ⟨D', hD', e'⟩ := clean_jk A m (D ++ Z)
    refine ⟨D', by simp at hD'; omega, ?_⟩
    rw [dsl, clean, e, e']
theorem finF_jk {A H0 : List AO} (hA : A.length = H0.length) (m : Nat) : ∃ D : List AO, ∀ (rs : List RS) (o : Out) (t : Ts) (ls : List (Nat × List AV)), finF H0 rs o ⟨t, ls, A ++ jk m, dsl A.length m⟩ = finF H0 rs o ⟨t, ls, A ++ D, []⟩ := by
  obtain ⟨D, _, e⟩ := clean_jk A m []
  rw [List.append_nil] at e
  refine ⟨D, fun rs o t ls => ?_⟩
  cases m with
  | zero => simp only [dsl, clean] at e; rw [dsl, e]
  | succ m =>
    have h1 : ∀ i ∈ dsl A.length (m + 1), H0.length ≤ i := fun i hi => by have := dsl_range _ _ i hi; omega
    have h2 := dsl_nodup A.length (m + 1)
    rw [dsl] at h1 h2 e ⊢
    rw [finF_ds, if_pos ⟨h1, h2⟩, e]
theorem finY_jk {S E α : Type} {y : AV} {n : Nat} {enc : α → List AV} {W : S → List AO} {WE : E → List AO} {stp : S → α → Option (S ⊕ E)} (hy : Ys y n enc W WE stp) (s : S) (r : S ⊕ E) (X : List AO) (m : Nat) {o : Out} (ho : o = .normal ∨ o = .ret) (t : Ts) (ls : List (Nat × List AV)) :
    finF (W s ++ X) [] o ⟨t, ls, hp W WE r ++ (X ++ jk m), dsl (n + X.length) m⟩ = some (.ret (.tup []), hp W WE r ++ X) := by
  have l1 : (W s).length = n := hy.len (.inl s)
  have l2 := hy.len r
  obtain ⟨D, e⟩ := finF_jk (A := hp W WE r ++ X) (H0 := W s ++ X) (by simp [l1, l2]) m
  rw [← List.append_assoc, show n + X.length = (hp W WE r ++ X).length by simp [l2], e]
  have hf := fin1_yd (H := W s) (A := hp W WE r) (X := X) (J := D) (r := .ret (.tup [])) (by rw [l1, l2]) (by rw [l1]; exact hy.fr s r) (show Lt _ _ from .tup (by simp))
  rcases ho with rfl | rfl
  · rw [finF_normal]; simp only [rvals]; exact hf
  · rw [finF_ret]; simp only [rvals]; exact hf

theorem named_seq (l : Lv) : l.ok → ∀ (kind : Int), IsSeq (namedV l kind) encI (namesL kind l) := by
  induction l using Lv.ind with
  | h k n ks ih =>
  intro hl kind S E y m W WE stp hy s X r hr
  rw [namedV]
  simp only [cfl_f1, List.cons_append, List.nil_append]
  by_cases hk : k = kind
  · rw [show namesL kind (.mk k n ks) = [n] by rw [namesL, if_pos hk]] at hr
    exact named_leaf k n ks kind hk y m W WE stp hy s X r hr
  have hlen := hl.len
  have hone := hy.one
  have hcell : y.cells = [y] := by cases y <;> first | rfl | (simp [AV.one] at hone)
  unfold AV.cells at hcell
  unfold AV.one at hone
  have loop : ∀ (suf pre : List Lv) (a : S), ks = pre ++ suf → fold stp (namesLs kind suf) a = some r →
      L_lsub_named_1_0 (W s ++ X) (W a ++ (X ++ jk pre.length)) (dsl (m + X.length) pre.length) (.fp [.int .i64 kind]) (.fp [y]) (.sl (Lv.css ks)) (.int .i64 ks.length) (.int .i64 pre.length) = some (.ret (.tup []), hp W WE r ++ X) := by
    intro suf
    induction suf with
    | nil =>
      intro pre a e hq2
      subst e
      simp only [namesLs, fold] at hq2
      cases hq2
      rw [L_lsub_named_1_0, awL_eq]
      simp only [↓reduceIte, go_sem]
      exact finY_jk hy s (.inl a) X pre.length (.inl rfl) _ _
    | cons x suf ih2 =>
      intro pre a e hq2
      subst e
      simp at hlen
      have lA : (W a).length = m := hy.len (.inl a)
      have hn : (W a ++ (X ++ jk pre.length)).length = m + (X.length + 2 * pre.length) := by simp [lA, jk_len]
      have hd : dfrs (W a ++ (X ++ jk pre.length)) (dsl (m + X.length) pre.length) = true := by
        have := dfrs_jk (W a ++ X) pre.length []
        simpa [lA] using this
      have hrd : inRd (W a ++ (X ++ jk pre.length)) (dsl (m + X.length) pre.length) = false := by
        have := inRd_jk (W a ++ X) pre.length []
        simpa [lA] using this
      rw [namesLs, fold_app] at hq2
      obtain ⟨q, hq⟩ : ∃ q, fold stp (namesL kind x) a = some q := by
        cases h : fold stp (namesL kind x) a with
        | none => rw [h] at hq2; cases hq2
        | some q => exact ⟨q, rfl⟩
      rw [hq] at hq2
      have hx := ih x (by simp) (hl.all x (by simp)) kind _ _ _ _ _ _ _ (named_ys hy (X ++ (jk pre.length ++ [.dfr]))) a [] q hq
      have lA' := hy.len q
      simp only [namedV, cfl_f1, List.append_nil, List.append_assoc, List.cons_append, List.nil_append, List.length_append, jk_len, List.length_cons, List.length_nil, slpN] at hx
      have hds : (m + (X.length + 2 * pre.length)) :: dsl (m + X.length) pre.length = dsl (m + X.length) (pre.length + 1) := by rw [dsl]; congr 1; omega
      have hg : ∀ st, (hp W WE q ++ (X ++ (jk pre.length ++ [AO.dfr, AO.slp st 31 [(3, .fp [y])] [25] s_lsub_named_1_0 y_lsub_named_1_0])))[m + (X.length + (2 * pre.length + 1))]? = some (AO.slp st 31 [(3, .fp [y])] [25] s_lsub_named_1_0 y_lsub_named_1_0) := by
        intro st
        rw [← lA', List.getElem?_append_right (by omega), List.getElem?_append_right (by omega), List.getElem?_append_right (by rw [jk_len]; omega), jk_len]
        rw [show (hp W WE q).length + (X.length + (2 * pre.length + 1)) - (hp W WE q).length - X.length - 2 * pre.length = 1 by omega]
        rfl
      have hs : ∀ st, (hp W WE q ++ (X ++ (jk pre.length ++ [AO.dfr, AO.slp st 31 [(3, .fp [y])] [25] s_lsub_named_1_0 y_lsub_named_1_0]))).set (m + (X.length + (2 * pre.length + 1))) .dead = hp W WE q ++ (X ++ jk (pre.length + 1)) := by
        intro st
        rw [← lA', List.set_append_right _ _ (by omega), List.set_append_right _ _ (by omega), List.set_append_right _ _ (by rw [jk_len]; omega), jk_len]
        rw [show (hp W WE q).length + (X.length + (2 * pre.length + 1)) - (hp W WE q).length - X.length - 2 * pre.length = 1 by omega]
        rfl
      rw [L_lsub_named_1_0, awL_eq]
      cases q with
      | inl a' =>
        have := ih2 (pre ++ [x]) a' (by simp) hq2
        simp only [len_app, len_snoc, Int.natCast_add, Int.natCast_one] at this
        simp only [hp_inl] at hx hg hs
        rw [← this]
        simp only [↓reduceIte, go_sem, named_ok, namedV, hn, hd, hrd, hx, hg, hs, hds, nat_wrap (n := pre.length) (by omega)]
      | inr e =>
        dsimp only at hq2
        cases hq2
        have := fun t ls => finY_jk hy s (.inr e) X (pre.length + 1) (o := .ret) (.inr rfl) t ls
        simp only [hp_inr] at hx hg hs this ⊢
        simp only [↓reduceIte, go_sem, named_ok, namedV, hn, hd, hrd, hx, hg, hs, hds, this]
  rw [show namesL kind (.mk k n ks) = namesLs kind ks by rw [namesL, if_neg hk]] at hr
  have h0 := loop ks [] s rfl hr
  simp only [List.length_nil, Int.natCast_zero, jk, dsl, List.append_nil] at h0
  show F lsub_named_1 _ _ = _
  rw [f_lsub_named_1, ← h0]
  simp only [↓reduceIte, go_sem, Lv.cs, hone, hcell, hk]
end Go.Ab
