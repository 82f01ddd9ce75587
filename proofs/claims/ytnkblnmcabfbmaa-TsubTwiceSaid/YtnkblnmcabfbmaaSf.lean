/- Layer 15: the statements. Conditions: none. -/
import Derived.Test.YtnkblnmcabfbmaaSe
import Derived.Test.YtnkblnmcabfbmaaLr
set_option linter.unusedVariables false
set_option linter.unusedSimpArgs false
set_option maxRecDepth 100000
set_option maxHeartbeats 2000000
namespace Go.Ab
open Go.RowKit Go.Proofs

theorem ints08_ok (a b : List Int) (hlen : a.length ≤ 140737488355328) (H : List AO) : F ref08_Ints [.sl (i64s a), .sl (i64s b)] H = some (.ret (.bool (intsB a b)), H) := by
  have loop : a.length = b.length → ∀ (suf pre suf' pre' : List Int), a = pre ++ suf → b = pre' ++ suf' → pre.length = pre'.length →
      L_ref08_Ints_0 H H (.sl (i64s a)) (.sl (i64s b)) (.int .i64 pre.length) = some (.ret (.bool (intsB suf suf')), H) := by
    intro hll suf
    induction suf with
    | nil =>
      intro pre suf' pre' e e' he
      subst e
      subst e'
      have : suf' = [] := List.eq_nil_of_length_eq_zero (by simp at hll; omega)
      subst this
      rw [L_ref08_Ints_0, awL_eq]
      simp only [↓reduceIte, go_sem, intsB]
    | cons x suf ih2 =>
      intro pre suf' pre' e e' he
      subst e
      subst e'
      simp at hlen
      cases suf' with
      | nil => simp at hll; omega
      | cons y suf' =>
      have hy : (pre' ++ y :: suf')[pre.length]? = some y := by rw [he]; simp
      have := ih2 (pre ++ [x]) suf' (pre' ++ [y]) (by simp) (by simp) (by simp [he])
      simp only [len_app] at this
      rw [L_ref08_Ints_0, awL_eq, intsB]
      by_cases hxy : x = y
      · simp only [↓reduceIte, go_sem, hy, hxy, nat_wrap (n := pre.length) (by omega)]
        subst hxy
        simp only [this, decide_true, Bool.true_and]
      · simp only [↓reduceIte, go_sem, hy, hxy, decide_false, Bool.false_and]
  rw [f_ref08_Ints]
  by_cases h3 : a.length = b.length
  · have := loop h3 a [] b [] rfl rfl rfl
    simp only [List.length_nil, Int.natCast_zero] at this
    have h3' : (a.length : Int) = b.length := by omega
    simp only [↓reduceIte, go_sem, h3', not_true_eq_false, this]
  · have h3' : ¬ (a.length : Int) = (b.length : Int) := by omega
    simp only [↓reduceIte, go_sem, h3', intsB_len h3]


theorem meta15_ok (n : Int) (H : List AO) : F law15_meta [.int .i64 n] H = some (.ret (.agg (Lv.mk 6 n []).cs), H) := by
  rw [f_law15_meta]
  simp only [↓reduceIte, go_sem, Lv.cs, Lv.css]
def m0T : Te := .mk 2 0 [.mk 6 0 []] []
def m1T : Te := .mk 2 0 [.mk 6 1 []] []
def z0T : Te := .mk 2 0 [.mk 1 0 []] []
theorem okL_zero : okLs [Lv.mk 1 0 []] := by intro x hx; simp at hx; subst hx; simp [okL_mk]
theorem awake15_ok (H : List AO) : F law15_awake [] H = some (.ret (.bool true), H) := by
  have o1 : (Te.mk 6 0 [] [m0T, m1T]).ok := by simp [m0T, m1T, okT_mk, okL_mk]
  have o2 : (Te.mk 6 0 [] [z0T, m1T]).ok := by simp [z0T, m1T, okT_mk, okL_mk]
  have o3 : (Te.mk 4 0 [] [.mk 3 2 [] [], .mk 3 2 [] []]).ok := by simp [okT_mk]
  have hM := fun n H => meta15_ok n H
  have s1 := fun H => Sort13_ok (.mk 6 0 []) H
  have s2 := fun H => Sort13_ok (.mk 6 1 []) H
  have s3 := fun H => Sort13_ok (.mk 1 0 []) H
  have b1 := fun H => Bind13_ok 6 [m0T, m1T] H
  have b2 := fun H => Bind13_ok 6 [z0T, m1T] H
  have b3 := fun H => Bind13_ok 4 [.mk 3 2 [] [], .mk 3 2 [] []] H
  have t1 := fun H => TSub_ok (.mk 6 0 [] [m0T, m1T]) [] [.mk 1 0 []] o1 (by intro x hx; cases hx) okL_zero (by simp) (by simp) H
  have t2 := fun H => TSub_ok zeroT [] [] (by simp [zeroT, okT_mk]) (by intro x hx; cases hx) (by intro x hx; cases hx) (by simp) (by simp) H
  have q1 := fun H => same13_ok _ o2 (.mk 6 0 [] [z0T, m1T]) H
  have q2 := fun H => TMetas_ok _ o1 (by decide) H
  have q3 := fun H => Consts_ok _ o3 (by decide) H
  have q4 := fun H => ints08_ok [0, 1] [0, 1] (by simp) H
  have q5 := fun H => ints08_ok [2] [2] (by simp) H
  rw [show TSubS (.mk 6 0 [] [m0T, m1T]) [] [.mk 1 0 []] = (.mk 6 0 [] [z0T, m1T], 0) by rfl] at t1
  rw [show TSubS zeroT [] [] = (zeroT, 1) by rfl] at t2
  rw [teEq_refl] at q1
  rw [show metL (.mk 6 0 [] [m0T, m1T]) = [0, 1] by rfl] at q2
  rw [show constL (.mk 4 0 [] [.mk 3 2 [] [], .mk 3 2 [] []]) = [2] by rfl] at q3
  rw [intsB_refl] at q4 q5
  simp only [resT, m0T, m1T, z0T, zeroT, Te.cs, Te.css, Lv.cs, Lv.css, i64s, List.map_cons, List.map_nil] at hM s1 s2 s3 b1 b2 b3 t1 t2 q1 q2 q3 q4 q5
  rw [f_law15_awake]
  simp only [↓reduceIte, go_sem, hM, s1, s2, s3, b1, b2, b3, t1, t2, q1, q2, q3, q4, q5]
mutual
theorem right_sub15 {ps ms : List Lv} {p m : Int} : ∀ {t : Te} {v d : Int}, rightT p m t v d = true → okTm ps ms t = true → rightT 5 10 (subT ps ms t) v d = true
  | .mk k n ls ks, v, d, h, ho => by
    rw [subT, rightT] at *
    rw [okTm, Bool.and_eq_true] at ho
    split at h
    · cases h
    rename_i h1
    rw [if_neg h1]
    split at h
    · cases h
    rename_i h2
    rw [if_neg (by rw [subTs_eq, List.length_map]; exact h2)]
    split at h
    · cases h
    rename_i h3
    simp only [Bool.not_eq_false, Bool.and_eq_true, List.all_eq_true] at h3
    have e1 : ((ls.map fun l => (SubS l ps ms).1).all fun x => RightB x 5 10) = true := by
      rw [List.all_map, List.all_eq_true]
      intro x hx
      have := List.all_eq_true.1 ho.1 x hx
      simp only [decide_eq_true_eq] at this
      show RightB (SubS x ps ms).1 5 10 = true
      unfold SubS at this ⊢
      split at this
      · simp at this
      · rename_i g
        rw [if_neg g]
        split at this
        · rename_i g2; rw [if_pos g2]; exact g2
        · simp at this
    have e2 : namedB k n (ls.map fun l => (SubS l ps ms).1) v = true := by
      have := h3.2
      unfold namedB at this ⊢
      simp only [List.length_map]
      exact this
    rw [e1, e2]
    simp only [Bool.and_self, Bool.true_eq_false, if_false]
    exact rights_sub15 h ho.2
theorem rights_sub15 {ps ms : List Lv} {p m k : Int} : ∀ {ks : List Te} {i v d : Int}, rightTs p m k ks i v d = true → okTms ps ms ks = true → rightTs 5 10 k (subTs ps ms ks) i v d = true
  | [], _, _, _, _, _ => rfl
  | x :: r, i, v, d, h, ho => by
    rw [subTs, rightTs, Bool.and_eq_true] at *
    rw [okTms, Bool.and_eq_true] at ho
    exact ⟨right_sub15 h.1 ho.1, rights_sub15 h.2 ho.2⟩
end

mutual
theorem parts_subT (ps ms : List Lv) : ∀ (t : Te) (m : Int), parts (subT ps ms t) m = parts t m
  | .mk k n ls ks, m => by rw [subT, parts, parts, partss_subT ps ms ks]
theorem partss_subT (ps ms : List Lv) : ∀ (ks : List Te) (m n : Int), partsL (subTs ps ms ks) m n = partsL ks m n
  | [], m, n => rfl
  | x :: r, m, n => by rw [subTs, partsL, partsL, parts_subT ps ms x, partss_subT ps ms r]
end
theorem shape_sub {ps ms : List Lv} {t : Te} (h : ShapeB t = true) (ho : okTm ps ms t = true) : ShapeB (subT ps ms t) = true := by
  have h1 := right_sub15 (shape_inv h) ho
  unfold ShapeB RightT at h ⊢
  simp at h ⊢
  exact ⟨by rw [parts_subT]; exact h.1, h1⟩
theorem TSubS_two {t r : Te} {ps ms : List Lv} {e : Int} (ht : ShapeB t = true) (h1 : ps.length ≤ 5) (h2 : ms.length ≤ 10) (h3 : rightLs ps = true) (h4 : rightLs ms = true) (h : TSubS t ps ms = (r, e)) : (e = 0 ∧ r = subT ps ms t ∧ okTm ps ms t = true) ∨ e = 2 := by
  unfold TSubS at h
  rw [if_neg (by rw [ht, h3, h4]; simp; omega)] at h
  split at h
  · cases h; exact .inl ⟨rfl, rfl, by assumption⟩
  · cases h; exact .inr rfl
def rightA (a : List Lv) : Prop := a.length ≤ 5 ∧ okLs a ∧ rightLs a = true
theorem shape_sort {l : Lv} (h : RightB l 5 10 = true) : ShapeB (.mk 2 0 [l] []) = true := by
  unfold ShapeB RightT
  simp [rightT, rightTs, kids13, namedB, h, parts, partsL]
theorem okT_sort {l : Lv} (h : l.ok) : (Te.mk 2 0 [l] []).ok := by simp [okT_mk, h]
theorem made_rightA {P : List (List Int)} (hP : BsOk P) : rightA (levels05S P 3) := by
  refine ⟨by have := levels05S_len P 3; omega, levels05S_ok _ _, ?_⟩
  unfold rightLs levels05S
  rw [List.all_eq_true]
  intro x hx
  obtain ⟨l, hl, rfl⟩ := List.mem_map.1 hx
  exact levelS_RightB (hP.2 l (List.mem_of_mem_take hl)).2 (by omega) (by omega) 5 (by omega) 0
theorem made13_shape {L : List Int} (hL : BytesOk L) : ShapeB (made13S L) = true := by
  have h1 := termS_right hL 3 3 0 (by omega)
  have h2 := termS_wt hL (x := 1) (by omega) 3 3 0
  have h3 : wS 1 3 ≤ 600 := by decide
  exact shapeB_of h1 (by omega) (by omega) (Nat.le_trans h2 h3)
theorem TsubOpen_row (L : List Int) (hL : L.length ≤ 140737488355328 ∧ BytesOk L) (K : List Int) (hK : K.length ≤ 140737488355328 ∧ BytesOk K) (P : List (List Int)) (hP : BsOk P) (H : List AO) :
    F law15_TsubOpen [.sl (u8s L), .sl (u8s K), .sl (u8ss P)] H = some (.ret (.bool true), H) := by
  have m1 := fun H => made13_ok L hL.2 hL.1 H
  have m2 := fun H => made13_ok K hK.2 hK.1 H
  have m3 := fun H => levels05_ok P hP 3 (by omega) H
  have ht := made13S_ok hL.2
  have hu := made13S_ok hK.2
  have st := made13_shape hL.2
  have su := made13_shape hK.2
  obtain ⟨a1, a2, a3⟩ := made_rightA hP
  simp only [Int.cast_ofNat_Int] at m3
  generalize made13S L = t at *
  generalize made13S K = u at *
  generalize levels05S P 3 = a at *
  have hO := fun H => Open13_ok t u ht hu H
  rcases ho : OpenS t u with ⟨x, e⟩
  rw [ho] at hO
  have hx : x.ok := by have := OpenS_ok ht hu; rw [ho] at this; exact this
  have hTx := fun H => TSub_ok x a a hx a2 a2 (by omega) (by omega) H
  have hTt := fun H => TSub_ok t a a ht a2 a2 (by omega) (by omega) H
  have hTu := fun H => TSub_ok u a a hu a2 a2 (by omega) (by omega) H
  rcases h1 : TSubS x a a with ⟨y, f⟩
  rcases h2 : TSubS t a a with ⟨v, g⟩
  rcases h3 : TSubS u a a with ⟨w, h⟩
  rw [h1] at hTx
  rw [h2] at hTt
  rw [h3] at hTu
  have k2 := TSubS_two st a1 (by omega) a3 a3 h2
  have k3 := TSubS_two su a1 (by omega) a3 a3 h3
  rw [f_law15_TsubOpen]
  have ho2 : (e = 0 ∧ x = openT u t 0 ∧ ShapeB x = true) ∨ e = 2 := by
    unfold OpenS at ho
    rw [if_neg (by simp [st, su])] at ho
    unfold toldT at ho
    split at ho
    · cases ho; exact .inl ⟨rfl, rfl, by assumption⟩
    · cases ho; exact .inr rfl
  rcases ho2 with ⟨rfl, hxe, hxs⟩ | rfl
  · have k1 := TSubS_two hxs a1 (by omega) a3 a3 h1
    by_cases hall : f = 0 ∧ g = 0 ∧ h = 0
    · obtain ⟨rfl, rfl, rfl⟩ := hall
      obtain ⟨_, rfl, o1⟩ : _ := k1.resolve_right (by decide)
      obtain ⟨_, rfl, o2⟩ : _ := k2.resolve_right (by decide)
      obtain ⟨_, rfl, o3⟩ : _ := k3.resolve_right (by decide)
      have hv := subT_ok a2 a2 t ht
      have hw := subT_ok a2 a2 u hu
      have e1 : OpenS (subT a a t) (subT a a u) = (subT a a x, 0) := by
        have sx := shape_sub hxs o1
        rw [hxe, sub_open] at sx ⊢
        unfold OpenS toldT
        rw [if_neg (by simp [shape_sub st o2, shape_sub su o3]), if_pos sx]
      have hO2 := fun H => Open13_ok (subT a a t) (subT a a u) hv hw H
      rw [e1] at hO2
      have hx2 := subT_ok a2 a2 x hx
      have hs := fun H => same13_ok (subT a a x) hx2 (subT a a x) H
      rw [teEq_refl] at hs
      generalize subT a a x = y at *
      generalize subT a a t = v at *
      generalize subT a a u = w at *
      rcases t with ⟨tk, tn, tls, tks⟩
      rcases u with ⟨uk, un, uls, uks⟩
      rcases x with ⟨xk, xn, xls, xks⟩
      rcases y with ⟨yk, yn, yls, yks⟩
      rcases v with ⟨vk, vn, vls, vks⟩
      rcases w with ⟨wk, wn, wls, wks⟩
      simp only [resT, Te.cs] at m1 m2 hO hTx hTt hTu hO2 hs
      simp only [↓reduceIte, go_sem, awake15_ok, m1, m2, m3, hO, hTx, hTt, hTu, hO2, hs]
    · have f2 : f = 0 ∨ f = 2 := by rcases k1 with h | h <;> omega
      have g2 : g = 0 ∨ g = 2 := by rcases k2 with h | h <;> omega
      have h2' : h = 0 ∨ h = 2 := by rcases k3 with h | h <;> omega
      rcases t with ⟨tk, tn, tls, tks⟩
      rcases u with ⟨uk, un, uls, uks⟩
      rcases x with ⟨xk, xn, xls, xks⟩
      rcases y with ⟨yk, yn, yls, yks⟩
      rcases v with ⟨vk, vn, vls, vks⟩
      rcases w with ⟨wk, wn, wls, wks⟩
      simp only [resT, Te.cs] at m1 m2 hO hTx hTt hTu
      rcases f2 with rfl | rfl <;> rcases g2 with rfl | rfl <;> rcases h2' with rfl | rfl
      · exact absurd ⟨rfl, rfl, rfl⟩ hall
      all_goals simp only [↓reduceIte, go_sem, awake15_ok, m1, m2, m3, hO, hTx, hTt, hTu, show ¬ ((2 : Int) = 0) by decide, show ¬ ((0 : Int) = 2) by decide]
  · rcases t with ⟨tk, tn, tls, tks⟩
    rcases u with ⟨uk, un, uls, uks⟩
    rcases x with ⟨xk, xn, xls, xks⟩
    simp only [resT, Te.cs] at m1 m2 hO
    simp only [↓reduceIte, go_sem, awake15_ok, m1, m2, m3, hO, show ¬ ((2 : Int) = 0) by decide]
end Go.Ab
