/- Levels put into terms: the document's functions. Conditions: none. -/
import Derived.Test.YtgcegmmobpibbaaGreatSa
set_option linter.unusedVariables false
set_option linter.unusedSimpArgs false
set_option maxRecDepth 100000
set_option maxHeartbeats 2000000
namespace Go.Ab
open Go.RowKit Go.Proofs

theorem right15_ok (xs : List Lv) (hlen : xs.length ≤ 140737488355328) (hx : okLs xs) (H : List AO) : F ref15_right [.sl (Lv.css xs)] H = some (.ret (.bool (rightLs xs)), H) := by
  have loop : ∀ (suf pre : List Lv), xs = pre ++ suf → L_ref15_right_0 H H (.sl (Lv.css xs)) (.int .i64 pre.length) = some (.ret (.bool (rightLs suf)), H) := by
    intro suf
    induction suf with
    | nil =>
      intro pre e
      subst e
      rw [L_ref15_right_0, awL_eq]
      simp only [↓reduceIte, go_sem, rightLs, List.all_nil]
    | cons x suf ih =>
      intro pre e
      subst e
      simp at hlen
      have := ih (pre ++ [x]) (by simp)
      simp only [len_app] at this
      have hr := Right02_ok x (hx x (by simp)) 5 10 H
      rw [L_ref15_right_0, awL_eq]
      unfold rightLs at *
      rw [List.all_cons]
      cases h : RightB x 5 10 <;> simp only [h] at hr <;> simp only [↓reduceIte, go_sem, hr, nat_wrap (n := pre.length) (by omega), this, Bool.true_and, Bool.false_and]
  have := loop xs [] rfl
  simp only [List.length_nil, Int.natCast_zero] at this
  rw [f_ref15_right]
  simp only [↓reduceIte, go_sem, this]

def resO (ps ms : List Lv) (t : Te) : AV := .tup [.agg (if okTm ps ms t = true then subT ps ms t else zeroT).cs, .bool (okTm ps ms t)]
theorem sub15_ok (ps ms : List Lv) (hp : okLs ps) (hm : okLs ms) (hpl : ps.length ≤ 140737488355328) (hml : ms.length ≤ 140737488355328) (p m : Int) (t : Te) : t.ok → ∀ (v d : Int), rightT p m t v d = true → ∀ (H : List AO),
    F ref15_sub [.agg t.cs, .sl (Lv.css ps), .sl (Lv.css ms)] H = some (.ret (resO ps ms t), H) := by
  induction t using Te.ind with
  | h k n ls ks ih =>
  intro hl v d hr H
  obtain ⟨hd1, hk, hls, hn, hks⟩ := rightT_inv hr
  have hk3 := kids13_le k
  have hl5 : ls.length ≤ 5 := by
    unfold namedB at hn
    split at hn
    · simp at hn; simp [hn.2]
    · split at hn
      · simp at hn; omega
      · split at hn
        · simp at hn; exact hn.2
        · simp at hn; simp [hn.2]
  have loop1 : (ls.all fun l => decide ((SubS l ps ms).2 = 0)) = true → ∀ (suf pre done : List Te), ks = pre ++ suf → done.length = pre.length → (okTms ps ms ks = true → done = subTs ps ms pre) → okTms ps ms ks = okTms ps ms suf →
      L_ref15_sub_1 H (H ++ [.lst 0 3 [], .lst 0 4 [], .lst ls.length 3 (Lv.css (ls.map fun l => (SubS l ps ms).1)), .lst done.length 4 (Te.css done), .lst 0 3 [], .lst 0 4 []])
        (.sl (Lv.css ps)) (.sl (Lv.css ms)) (.int .i64 pre.length) [.int .i64 k, .int .i64 n, .sl (Lv.css ls), .sl (Te.css ks)] [.int .i64 0, .int .i64 0, .ol H.length 0, .ol (H.length + 1) 0] [.int .i64 k, .int .i64 n, .ol (H.length + 2) ls.length, .ol (H.length + 3) done.length] =
      some (.ret (resO ps ms (.mk k n ls ks)), H) := by
    intro hls0 suf
    induction suf with
    | nil =>
      intro pre done eq he hdn hok
      subst eq
      rw [List.append_nil] at *
      have h1 : okTms ps ms pre = true := hok
      have h2 : okTm ps ms (.mk k n ls pre) = true := by rw [okTm, hls0, h1]; rfl
      rw [L_ref15_sub_1, awL_eq]
      unfold resO
      rw [h2, if_pos rfl, subT, ← hdn h1]
      simp only [↓reduceIte, go_sem, Te.cs]
    | cons x suf ih2 =>
      intro pre done eq he hdn hok
      subst eq
      simp at hk
      have hx := ih x (by simp) (hl.all x (by simp)) _ _ (rightTs_mid hks)
      unfold resO at hx
      have hdl : done.length ≤ 1073741823 := by omega
      rw [L_ref15_sub_1, awL_eq]
      rw [okTms] at hok
      cases hxk : okTm ps ms x with
      | true =>
        rw [hxk, Bool.true_and] at hok
        have := ih2 (pre ++ [x]) (done ++ [subT ps ms x]) (by simp) (by simp [he]) (fun h => by rw [hdn h]; simp [subTs_eq]) hok
        simp only [len_app] at this
        simp only [len_snoc, List.append_assoc, List.cons_append, List.nil_append] at this
        simp only [hxk] at hx
        simp only [↓reduceIte, go_sem, hx, nat_wrap (n := pre.length) (by omega), hdl, tcss_snoc, this]
      | false =>
        rw [hxk, Bool.false_and] at hok
        simp only [hxk] at hx
        have h2 : okTm ps ms (.mk k n ls (pre ++ x :: suf)) = false := by rw [okTm, hok]; simp
        unfold resO
        rw [h2]
        simp only [↓reduceIte, go_sem, hx, zeroT, Te.cs, Lv.css, Te.css, Bool.false_eq_true, Nat.add_le_add_iff_left, Nat.reduceLeDiff]
  have loop0 : ∀ (suf pre : List Lv), ls = pre ++ suf → (ls.all fun l => decide ((SubS l ps ms).2 = 0)) = (suf.all fun l => decide ((SubS l ps ms).2 = 0)) →
      L_ref15_sub_0 H (H ++ [.lst 0 3 [], .lst 0 4 [], .lst pre.length 3 (Lv.css (pre.map fun l => (SubS l ps ms).1)), .lst 0 4 [], .lst 0 3 [], .lst 0 4 []])
        (.sl (Lv.css ps)) (.sl (Lv.css ms)) (.int .i64 pre.length) [.int .i64 k, .int .i64 n, .sl (Lv.css ls), .sl (Te.css ks)] [.int .i64 0, .int .i64 0, .ol H.length 0, .ol (H.length + 1) 0] [.int .i64 k, .int .i64 n, .ol (H.length + 2) pre.length, .ol (H.length + 3) 0] =
      some (.ret (resO ps ms (.mk k n ls ks)), H) := by
    intro suf
    induction suf with
    | nil =>
      intro pre eq hall
      subst eq
      rw [List.append_nil] at *
      have h1 := loop1 (by rw [hall]; rfl) ks [] [] rfl rfl (fun _ => rfl) rfl
      simp only [List.length_nil, Int.natCast_zero, Te.css] at h1
      rw [L_ref15_sub_0, awL_eq]
      simp only [↓reduceIte, go_sem, h1]
    | cons l suf ih2 =>
      intro pre eq hall
      subst eq
      simp at hl5
      have hs := fun H => Sub05_ok l ps ms (hl.all2 l (by simp)) hp hm hpl hml H
      simp only [resL] at hs
      rw [L_ref15_sub_0, awL_eq]
      by_cases h0 : (SubS l ps ms).2 = 0
      · have := ih2 (pre ++ [l]) (by simp) (by rw [hall]; simp [h0])
        simp only [len_app] at this
        simp only [len_snoc, List.map_append, List.map_cons, List.map_nil] at this
        simp only [↓reduceIte, go_sem, hs, h0, nat_wrap (n := pre.length) (by omega), css_snoc, List.length_map, show pre.length + (0 + 1) ≤ 1073741824 by omega]
        exact this
      · have h2 : okTm ps ms (.mk k n (pre ++ l :: suf) ks) = false := by rw [okTm, hall]; simp [h0]
        unfold resO
        rw [h2]
        simp only [↓reduceIte, go_sem, hs, h0, zeroT, Te.cs, Lv.css, Te.css, Bool.false_eq_true, Nat.add_le_add_iff_left, Nat.reduceLeDiff]
  have h0 := loop0 ls [] rfl rfl
  simp only [List.length_nil, Int.natCast_zero, List.map_nil, Lv.css] at h0
  rw [f_ref15_sub]
  simp only [↓reduceIte, go_sem, Te.cs]
  exact h0
theorem TSub15_ok (t : Te) (ps ms : List Lv) (ht : t.ok) (hp : okLs ps) (hm : okLs ms) (hpl : ps.length ≤ 140737488355328) (hml : ms.length ≤ 140737488355328) (H : List AO) :
    F ref15_Sub [.agg t.cs, .sl (Lv.css ps), .sl (Lv.css ms)] H = some (.ret (resT (TSubS t ps ms)), H) := by
  have h1 := fun H => Shape13_ok t ht H
  have h2 := right15_ok ps hpl hp H
  have h3 := right15_ok ms hml hm H
  rw [f_ref15_Sub, TSubS]
  by_cases hr : ShapeB t = true
  · by_cases a1 : 5 < ps.length
    · have a1' : (5 : Int) < ps.length := by omega
      simp only [↓reduceIte, go_sem, h1, hr, a1, a1', resT, zeroT, Te.cs, Lv.css, Te.css, Bool.true_eq_false, false_or, true_or]
    by_cases a2 : 10 < ms.length
    · have a1' : ¬ (5 : Int) < ps.length := by omega
      have a2' : (10 : Int) < ms.length := by omega
      simp only [↓reduceIte, go_sem, h1, hr, a1, a1', a2, a2', resT, zeroT, Te.cs, Lv.css, Te.css, Bool.true_eq_false, false_or, true_or]
    have a1' : ¬ (5 : Int) < ps.length := by omega
    have a2' : ¬ (10 : Int) < ms.length := by omega
    cases b1 : rightLs ps with
    | false => simp only [↓reduceIte, go_sem, h1, h2, hr, a1, a1', a2, a2', b1, resT, zeroT, Te.cs, Lv.css, Te.css, Bool.true_eq_false, false_or, true_or]
    | true =>
    cases b2 : rightLs ms with
    | false => simp only [↓reduceIte, go_sem, h1, h2, h3, hr, a1, a1', a2, a2', b1, b2, resT, zeroT, Te.cs, Lv.css, Te.css, Bool.true_eq_false, false_or, true_or]
    | true =>
    have h4 := sub15_ok ps ms hp hm hpl hml 5 10 t ht 1000 30 (shape_inv hr) H
    unfold resO at h4
    by_cases b3 : okTm ps ms t = true
    · simp only [b3, if_true] at h4
      simp only [↓reduceIte, go_sem, h1, h2, h3, h4, hr, a1, a1', a2, a2', b1, b2, b3, resT, zeroT, Te.cs, Lv.css, Te.css, Bool.true_eq_false, Bool.false_eq_true, or_self, true_or]
    · simp only [Bool.not_eq_true] at b3
      simp only [b3, Bool.false_eq_true, if_false] at h4
      simp only [↓reduceIte, go_sem, h1, h2, h3, h4, hr, a1, a1', a2, a2', b1, b2, b3, resT, zeroT, Te.cs, Lv.css, Te.css, Bool.true_eq_false, Bool.false_eq_true, or_self, true_or]
  · simp only [Bool.not_eq_true] at hr
    simp only [↓reduceIte, go_sem, h1, hr, resT, zeroT, Te.cs, Lv.css, Te.css, true_or]
end Go.Ab
