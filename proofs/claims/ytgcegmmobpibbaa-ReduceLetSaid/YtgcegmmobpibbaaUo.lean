/- What a term comes to: the plain law: shapes are kept, more fuel, again. Conditions: none. -/
import Derived.Test.YtgcegmmobpibbaaUh
import Derived.Test.YtgcegmmobpibbaaTq
set_option linter.unusedVariables false
set_option linter.unusedSimpArgs false
set_option maxRecDepth 100000
set_option maxHeartbeats 2000000
namespace Go.Ab
open Go.RowKit Go.Proofs


mutual
theorem right_min {p m : Int} : ∀ {t : Te} {v d v2 d2 : Int}, rightT p m t v d = true → rightT p m t v2 d2 = true → rightT p m t v d2 = true
  | .mk k n ls ks, v, d, v2, d2, h1, h2 => by
    rw [rightT] at h1 h2 ⊢
    split at h2
    · cases h2
    rename_i hd
    rw [if_neg hd]
    split at h1
    · cases h1
    split at h1
    · cases h1
    rename_i hk
    rw [if_neg hk] at h2 ⊢
    split at h1
    · cases h1
    rename_i hn
    rw [if_neg hn]
    split at h2
    · cases h2
    exact rights_min h1 h2
theorem rights_min {p m k : Int} : ∀ {ks : List Te} {i v d v2 d2 : Int}, rightTs p m k ks i v d = true → rightTs p m k ks i v2 d2 = true → rightTs p m k ks i v d2 = true
  | [], _, _, _, _, _, _, _ => rfl
  | x :: r, i, v, d, v2, d2, h1, h2 => by
    rw [rightTs, Bool.and_eq_true] at h1 h2 ⊢
    exact ⟨right_min h1.1 h2.1, rights_min h1.2 h2.2⟩
end
mutual
theorem parts_sz : ∀ (t : Te) (m : Int), parts t m ≤ sz t
  | .mk k n ls ks, m => by
    rw [parts, sz, subs, List.length_cons]
    have := partss_sz ks m 1
    omega
theorem partss_sz : ∀ (ks : List Te) (m n : Int), partsL ks m n ≤ n + (subss ks).length
  | [], m, n => by rw [partsL, subss]; simp
  | x :: r, m, n => by
    rw [partsL, subss, List.length_append]
    have h1 := partss_sz r m n
    have h2 := partss_sz r m (n + parts x (m - n))
    have h3 := parts_sz x (m - n)
    unfold sz at h3
    split <;> omega
end
mutual
theorem rightB_mono {p m P M : Int} (hp : p ≤ P) (hm : m ≤ M) : ∀ {l : Lv} {d : Int}, rightB p m l d = true → rightB P M l d = true
  | .mk k n ks, d, h => by
    rw [rightB] at h ⊢
    split at h
    · cases h
    rename_i h1
    rw [if_neg h1]
    split at h
    · cases h
    rename_i h2
    rw [if_neg h2]
    split
    · rename_i h3; rw [if_pos h3] at h; simp at h ⊢; omega
    · rename_i h3
      rw [if_neg h3] at h
      split
      · rename_i h4; rw [if_pos h4] at h; simp at h ⊢; omega
      · rename_i h4
        rw [if_neg h4] at h
        simp only [Bool.and_eq_true] at h ⊢
        exact ⟨rightsB_mono hp hm h.1, h.2⟩
theorem rightsB_mono {p m P M : Int} (hp : p ≤ P) (hm : m ≤ M) : ∀ {ks : List Lv} {d : Int}, rightsB p m ks d = true → rightsB P M ks d = true
  | [], _, _ => rfl
  | x :: r, d, h => by
    rw [rightsB, Bool.and_eq_true] at h ⊢
    exact ⟨rightB_mono hp hm h.1, rightsB_mono hp hm h.2⟩
end
theorem RightB_mono {l : Lv} {p m P M : Int} (hp : p ≤ P) (hm : m ≤ M) (hP : P ≤ 5) (hM : M ≤ 10) (h : RightB l p m = true) : RightB l P M = true := by
  unfold RightB at h ⊢
  simp only [Bool.and_eq_true, decide_eq_true_eq] at h ⊢
  exact ⟨⟨⟨⟨⟨by omega, hP⟩, by omega⟩, hM⟩, h.1.2⟩, rightB_mono hp hm h.2⟩
mutual
theorem right_pm {p m P M : Int} (hp : p ≤ P) (hm : m ≤ M) (hP : P ≤ 5) (hM : M ≤ 10) : ∀ {t : Te} {v d : Int}, rightT p m t v d = true → rightT P M t v d = true
  | .mk k n ls ks, v, d, h => by
    rw [rightT] at h ⊢
    split at h
    · cases h
    rename_i h1
    rw [if_neg h1]
    split at h
    · cases h
    rename_i h2
    rw [if_neg h2]
    split at h
    · cases h
    rename_i h3
    simp only [Bool.not_eq_false, Bool.and_eq_true, List.all_eq_true] at h3
    have : (ls.all fun x => RightB x P M) = true := List.all_eq_true.2 fun x hx => RightB_mono hp hm hP hM (h3.1 x hx)
    rw [this, h3.2]
    simp only [Bool.and_self, Bool.true_eq_false, if_false]
    exact rights_pm hp hm hP hM h
theorem rights_pm {p m P M : Int} (hp : p ≤ P) (hm : m ≤ M) (hP : P ≤ 5) (hM : M ≤ 10) {k : Int} : ∀ {ks : List Te} {i v d : Int}, rightTs p m k ks i v d = true → rightTs P M k ks i v d = true
  | [], _, _, _, _ => rfl
  | x :: r, i, v, d, h => by
    rw [rightTs, Bool.and_eq_true] at h ⊢
    exact ⟨right_pm hp hm hP hM h.1, rights_pm hp hm hP hM h.2⟩
end
mutual
theorem right_sub {ps ms : List Lv} {p m : Int} : ∀ {t : Te} {v d : Int}, rightT p m t v d = true → okTm ps ms t = true → rightT 5 10 (subT ps ms t) v d = true
  | .mk k n ls ks, v, d, h, ho => by
    rw [subT, rightT] at *
    rw [okTm, Bool.and_eq_true] at ho
    split at h
    · cases h
    rename_i h1
    rw [if_neg h1]
    split at h
    · cases h
    rename_i h2
    rw [if_neg (by rw [subTs_eq, List.length_map]; exact h2)]
    split at h
    · cases h
    rename_i h3
    simp only [Bool.not_eq_false, Bool.and_eq_true, List.all_eq_true] at h3
    have e1 : ((ls.map fun l => (SubS l ps ms).1).all fun x => RightB x 5 10) = true := by
      rw [List.all_map, List.all_eq_true]
      intro x hx
      have := List.all_eq_true.1 ho.1 x hx
      simp only [decide_eq_true_eq] at this
      show RightB (SubS x ps ms).1 5 10 = true
      unfold SubS at this ⊢
      split at this
      · simp at this
      · rename_i g
        rw [if_neg g]
        split at this
        · rename_i g2; rw [if_pos g2]; exact g2
        · simp at this
    have e2 : namedB k n (ls.map fun l => (SubS l ps ms).1) v = true := by
      have := h3.2
      unfold namedB at this ⊢
      simp only [List.length_map]
      exact this
    rw [e1, e2]
    simp only [Bool.and_self, Bool.true_eq_false, if_false]
    exact rights_sub h ho.2
theorem rights_sub {ps ms : List Lv} {p m k : Int} : ∀ {ks : List Te} {i v d : Int}, rightTs p m k ks i v d = true → okTms ps ms ks = true → rightTs 5 10 k (subTs ps ms ks) i v d = true
  | [], _, _, _, _, _ => rfl
  | x :: r, i, v, d, h, ho => by
    rw [subTs, rightTs, Bool.and_eq_true] at *
    rw [okTms, Bool.and_eq_true] at ho
    exact ⟨right_sub h.1 ho.1, rights_sub h.2 ho.2⟩
end


theorem shape_of {t : Te} {v d : Int} (h : rightT 5 10 t v d = true) (hv : v ≤ 1000) (hd : d ≤ 30) (hs : sz t ≤ 600) : ShapeB t = true := by
  have h1 := right_mono t h hv hd
  have h2 := parts_sz t 601
  unfold ShapeB RightT
  simp [h1]; omega
/-- A term of at most two free variables that may be. -/
def inv (t : Te) : Prop := sz t ≤ 600 ∧ rightT 5 10 t 2 30 = true
theorem inv.shape {t : Te} (h : inv t) : ShapeB t = true := shape_of h.2 (by omega) (by omega) h.1
theorem open_two {b v r : Te} {e : Int} (hb : sz b ≤ 600) (hb2 : rightT 5 10 b 3 29 = true) (hv : inv v) (ho : OpenS b v = (r, e)) : e = 0 ∧ inv r ∨ e = 2 := by
  have s1 := shape_of hb2 (by omega) (by omega) hb
  have s2 := hv.shape
  unfold OpenS at ho
  rw [if_neg (by simp [s1, s2])] at ho
  unfold toldT at ho
  split at ho
  · rename_i h
    cases ho
    refine .inl ⟨rfl, shape_sz h, ?_⟩
    exact right_min (right_open b (v := 2) (f := 0) hb2 (by omega) (by omega) (by simpa using hv.2)) (shape_inv h)
  · cases ho; exact .inr rfl
theorem sz_let (N : Int) (ls : List Lv) (s v b : Te) : sz (.mk 7 N ls [s, v, b]) = sz s + sz v + sz b + 1 := by
  simp [sz, subs, subss]; omega
theorem sz_two (k N : Int) (ls : List Lv) (f a : Te) : sz (.mk k N ls [f, a]) = sz f + sz a + 1 := by
  simp [sz, subs, subss]
theorem inv_let {N : Int} {ls : List Lv} {s v b : Te} (h : inv (.mk 7 N ls [s, v, b])) : inv v ∧ sz b ≤ 600 ∧ rightT 5 10 b 3 29 = true := by
  have h1 := h.1
  rw [sz_let] at h1
  have h2 := (rightT_inv h.2).2.2.2.2
  simp [rightTs, binds] at h2
  exact ⟨⟨by omega, right_mono v h2.2.1 (by omega) (by omega)⟩, by omega, h2.2.2⟩
theorem inv_app {N : Int} {ls : List Lv} {f a : Te} (h : inv (.mk 4 N ls [f, a])) : inv f ∧ inv a := by
  have h1 := h.1
  rw [sz_two] at h1
  have h2 := (rightT_inv h.2).2.2.2.2
  simp [rightTs, binds] at h2
  exact ⟨⟨by omega, right_mono f h2.1 (by omega) (by omega)⟩, by omega, right_mono a h2.2 (by omega) (by omega)⟩
theorem inv_lam {N : Int} {ls : List Lv} {s b : Te} (h : inv (.mk 5 N ls [s, b])) : sz b ≤ 600 ∧ rightT 5 10 b 3 29 = true := by
  have h1 := h.1
  rw [sz_two] at h1
  have h2 := (rightT_inv h.2).2.2.2.2
  simp [rightTs, binds] at h2
  exact ⟨by omega, h2.2⟩
theorem declsB_at : ∀ {env : List De} {a : Int} {j : Nat} {d : De}, declsB env a = true → env[j]? = some d → declB d (a + j) = true
  | [], _, _, _, _, h => by simp at h
  | x :: r, a, 0, d, h1, h2 => by
    rw [declsB, Bool.and_eq_true] at h1
    simp at h2; subst h2
    simpa using h1.1
  | x :: r, a, j + 1, d, h1, h2 => by
    rw [declsB, Bool.and_eq_true] at h1
    have := declsB_at h1.2 (show r[j]? = some d by simpa using h2)
    rwa [show a + 1 + (j : Int) = a + ((j + 1 : Nat) : Int) by omega] at this
theorem value_right {env : List De} (hR : RightD env = true) {n : Int} {ls : List Lv} {d : De} (hu : unfD env n ls = some d) : RightT d.value 0 d.p 0 = true := by
  obtain ⟨h1, h2, _⟩ := unfD_mem hu
  unfold RightD at hR
  rw [Bool.and_eq_true] at hR
  have := declsB_at hR.1 h1
  unfold declB at this
  rw [if_pos h2, Bool.and_eq_true] at this
  have h3 := this.2
  unfold mayT at h3
  rw [Bool.and_eq_true] at h3
  exact h3.1
theorem const_two {env : List De} (hR : RightD env = true) {N : Int} {ls : List Lv} {ks : List Te} {d : De} {r : Te} {e : Int} (ht : inv (.mk 3 N ls ks)) (hu : unfD env N ls = some d) (hs : TSubS d.value ls [] = (r, e)) : e = 0 ∧ inv r ∨ e = 2 := by
  have hv := value_right hR hu
  unfold RightT at hv
  simp only [Bool.and_eq_true, decide_eq_true_eq] at hv
  have hp : 0 ≤ d.p ∧ d.p ≤ 5 := by omega
  have hr := right_pm (p := d.p) (m := 0) (P := 5) (M := 10) hp.2 (by omega) (by omega) (by omega) hv.2
  have hsz : sz d.value ≤ 600 := by
    have := subs_parts d.value 601 (by omega)
    unfold sz; omega
  have hsh := shape_of hr (by omega) (by omega) hsz
  have hi := rightT_inv ht.2
  have hn := hi.2.2.2.1
  have hl : ls.length ≤ 5 := by
    unfold namedB at hn; simp at hn; exact hn.2
  have hls : rightLs ls = true := by
    have := hi.2.2.1
    unfold rightLs
    simpa using this
  unfold TSubS at hs
  have g : ¬ (ShapeB d.value = false ∨ 5 < ls.length ∨ 10 < ([] : List Lv).length ∨ rightLs ls = false ∨ rightLs [] = false) := by
    rw [hsh, hls, show rightLs [] = true from rfl]; simp; exact hl
  rw [if_neg g] at hs
  split at hs
  · rename_i ho
    cases hs
    refine .inl ⟨rfl, ?_, ?_⟩
    · unfold sz at *; rw [subs_subT]; exact hsz
    · exact right_mono _ (right_sub hr ho) (by omega) (by omega)
  · cases hs; exact .inr rfl
theorem Hd.inv5 {env : List De} (hR : RightD env = true) {n : Nat} {t t' : Te} {n' : Nat} (h : Hd env n t t' n') : inv t → t'.kind = 5 → inv t' := by
  induction h with
  | stuck => exact fun h _ => h
  | lett ho _ ih =>
    intro h h5
    obtain ⟨a, b, c⟩ := inv_let h
    rcases open_two b c a ho with ⟨_, hr⟩ | h
    · exact ih hr h5
    · cases h
  | const hN hu hs _ ih =>
    intro h h5
    rcases const_two hR h hu hs with ⟨_, hr⟩ | h
    · exact ih hr h5
    · cases h
  | app => exact fun _ h => by cases h
  | beta _ ho _ ih1 ih2 =>
    intro h h5
    obtain ⟨hf, ha⟩ := inv_app h
    obtain ⟨b, c⟩ := inv_lam (ih1 hf rfl)
    rcases open_two b c ha ho with ⟨_, hr⟩ | h
    · exact ih2 hr h5
    · cases h
theorem He.two {env : List De} (hR : RightD env = true) {n : Nat} {t : Te} {n' : Nat} {e : Int} (h : He env n t n' e) : inv t → e = 2 ∨ e = 40 := by
  induction h with
  | let0 => exact fun _ => .inr rfl
  | let2 ho he =>
    intro h
    obtain ⟨a, b, c⟩ := inv_let h
    rcases open_two b c a ho with ⟨h, _⟩ | h
    · exact absurd h he
    · exact .inl h
  | letr ho _ ih =>
    intro h
    obtain ⟨a, b, c⟩ := inv_let h
    rcases open_two b c a ho with ⟨_, hr⟩ | h
    · exact ih hr
    · cases h
  | const0 => exact fun _ => .inr rfl
  | const2 hN hu hs he =>
    intro h
    rcases const_two hR h hu hs with ⟨h, _⟩ | h
    · exact absurd h he
    · exact .inl h
  | constr hN hu hs _ ih =>
    intro h
    rcases const_two hR h hu hs with ⟨_, hr⟩ | h
    · exact ih hr
    · cases h
  | appf _ ih => exact fun h => ih (inv_app h).1
  | beta0 => exact fun _ => .inr rfl
  | beta2 hd ho he =>
    intro h
    obtain ⟨hf, ha⟩ := inv_app h
    obtain ⟨b, c⟩ := inv_lam (hd.inv5 hR hf rfl)
    rcases open_two b c ha ho with ⟨h, _⟩ | h
    · exact absurd h he
    · exact .inl h
  | betar hd ho _ ih =>
    intro h
    obtain ⟨hf, ha⟩ := inv_app h
    obtain ⟨b, c⟩ := inv_lam (hd.inv5 hR hf rfl)
    rcases open_two b c ha ho with ⟨_, hr⟩ | h
    · exact ih hr
    · cases h
theorem Hd.again {env : List De} {n : Nat} {t t' : Te} {n' : Nat} (h : Hd env n t t' n') : ∀ m, Hd env m t' t' m := by
  induction h with
  | stuck h1 h2 h3 => exact fun m => .stuck h1 h2 h3
  | lett _ _ ih => exact ih
  | const _ _ _ _ ih => exact ih
  | app _ hk ih => exact fun m => .app (ih m) hk
  | beta _ _ _ _ ih => exact ih
theorem Hd.more {env : List De} {n : Nat} {t t' : Te} {n' : Nat} (h : Hd env n t t' n') : ∀ k, Hd env (n + k) t t' (n' + k) := by
  induction h with
  | stuck h1 h2 h3 => exact fun m => .stuck h1 h2 h3
  | @lett n N ls s v b r t' n' ho _ ih =>
    intro k
    rw [show n + 1 + k = (n + k) + 1 by omega]
    exact .lett ho (ih k)
  | @const n N ls ks d r t' n' hN hu hs _ ih =>
    intro k
    rw [show n + 1 + k = (n + k) + 1 by omega]
    exact .const hN hu hs (ih k)
  | app _ hk ih => exact fun k => .app (ih k) hk
  | @beta n N ls f a N2 ls2 s b m r t' n' _ ho _ ih1 ih2 =>
    intro k
    have := ih1 k
    rw [show m + 1 + k = (m + k) + 1 by omega] at this
    exact .beta this ho (ih2 k)
end Go.Ab
