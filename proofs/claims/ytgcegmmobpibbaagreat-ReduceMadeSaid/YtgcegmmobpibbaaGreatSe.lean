/- The numbers of the declarations in a term: the document's functions. Conditions: none. -/
import Derived.Test.YtgcegmmobpibbaaGreatSd
set_option linter.unusedVariables false
set_option linter.unusedSimpArgs false
set_option maxRecDepth 100000
set_option maxHeartbeats 2000000
namespace Go.Ab
open Go.RowKit Go.Proofs

theorem onceL_mem : ∀ (xs out : List Int) (n : Int), out.contains n = true → (onceL out xs).contains n = true
  | [], out, n, h => h
  | x :: r, out, n, h => by
    rw [onceL]
    refine onceL_mem r _ n ?_
    split
    · exact h
    · simp at h ⊢; exact .inl h
theorem onceL_once : ∀ (xs acc out : List Int), onceL out (onceL acc xs) = onceL (onceL out acc) xs
  | [], acc, out => rfl
  | n :: r, acc, out => by
    rw [onceL, onceL_once r, onceL]
    by_cases h : acc.contains n = true
    · rw [if_pos h]
      have : (onceL out acc).contains n = true := by
        clear onceL_once
        induction acc generalizing out with
        | nil => simp at h
        | cons a acc ih =>
          rw [onceL]
          by_cases ha : n = a
          · subst ha
            refine onceL_mem _ _ _ ?_
            split
            · assumption
            · simp
          · have : acc.contains n = true := by simpa [ha] using h
            exact ih _ this
      rw [if_pos this]
    · rw [if_neg h, onceL_app, onceL, onceL]
def consTs : List Te → List Int
  | [] => []
  | x :: r => consN (subs x) ++ consTs r
theorem consN_subss : ∀ ks : List Te, consN (subss ks) = consTs ks
  | [] => rfl
  | x :: r => by rw [subss, consN_app, consN_subss r]; rfl
theorem consN_len : ∀ xs : List Te, (consN xs).length ≤ xs.length
  | [] => Nat.le_refl _
  | x :: r => by
    have := consN_len r
    rw [consN]; split <;> simp <;> omega
theorem Consts15_ok (t : Te) : t.ok → (subs t).length ≤ 1073741824 → ∀ (H : List AO), F ref15_Consts [.agg t.cs] H = some (.ret (.sl (i64s (constL t))), H) := by
  induction t using Te.ind with
  | h k n ls ks ih =>
  intro hl hx H
  have hlen := hl.len
  have loop0 : ∀ (j : Nat) (m : List Int) (x : Int) (x4 : AV), m[j]? = some x → m.length ≤ 1073741824 → ∀ (es : List Int) (ver : Nat), es.length < 1073741824 → ∀ (suf pre : List Int), es = pre ++ suf →
      L_ref15_Consts_0 H (H ++ [.lst 0 1 [], .lst ver 1 (i64s es)]) (.ol (H.length + 1) ver) x4 (.sl (i64s m)) (.int .i64 j) (.bool (pre.contains x)) (.int .i64 pre.length) (Te.mk k n ls ks).cs =
      L_ref15_Consts_1 H (H ++ [.lst 0 1 [], .lst (if es.contains x then ver else ver + 1) 1 (i64s (if es.contains x then es else es ++ [x]))]) (.ol (H.length + 1) (if es.contains x then ver else ver + 1)) x4 (.sl (i64s m)) (.int .i64 (j + 1)) (Te.mk k n ls ks).cs := by
    intro j m x x4 hj hm es ver hs suf
    have hjm : j < m.length := by
      rcases Nat.lt_or_ge j m.length with h | h
      · exact h
      · rw [List.getElem?_eq_none h] at hj; cases hj
    induction suf with
    | nil =>
      intro pre e
      rw [List.append_nil] at e
      subst e
      rw [L_ref15_Consts_0, awL_eq]
      by_cases h : es.contains x = true
      · simp only [h]
        simp only [↓reduceIte, go_sem, nat_wrap (n := j) (by omega)]
      · simp only [Bool.not_eq_true] at h
        simp only [h]
        simp only [↓reduceIte, go_sem, hj, hjm, nat_wrap (n := j) (by omega), i64s_snoc, show es.length + (0 + 1) ≤ 1073741824 by omega, show es.length ≤ 1073741823 by omega]
    | cons y suf ih2 =>
      intro pre e
      have := ih2 (pre ++ [y]) (by rw [e]; simp)
      simp only [len_app] at this
      rw [← this, L_ref15_Consts_0, awL_eq]
      have hc : (pre ++ [y]).contains x = (pre.contains x || decide (y = x)) := by
        rw [Bool.eq_iff_iff]; simp only [List.contains_iff_mem, List.mem_append, List.mem_singleton, Bool.or_eq_true, decide_eq_true_eq]; exact or_congr_right eq_comm
      have hp : (pre.length : Int) < (es.length : Int) := by rw [e]; simp; omega
      have hg : es[pre.length]? = some y := by rw [e]; simp
      have hp2 : pre.length < es.length := by rw [e]; simp
      rw [hc]
      cases h : pre.contains x with
      | true => simp only [↓reduceIte, go_sem, hp, hp2, hg, nat_wrap (n := pre.length) (by omega), Bool.true_or]
      | false => simp only [↓reduceIte, go_sem, hp, hp2, hg, hj, hjm, nat_wrap (n := pre.length) (by omega), Bool.false_or]
  have loop1 : ∀ (i : Int) (suf pre out : List Int) (ver : Nat), out.length + suf.length ≤ 1073741824 → pre.length + suf.length ≤ 1073741824 → ∃ v,
      L_ref15_Consts_1 H (H ++ [.lst 0 1 [], .lst ver 1 (i64s out)]) (.ol (H.length + 1) ver) (.int .i64 i) (.sl (i64s (pre ++ suf))) (.int .i64 pre.length) (Te.mk k n ls ks).cs =
      L_ref15_Consts_2 H (H ++ [.lst 0 1 [], .lst v 1 (i64s (onceL out suf))]) (.ol (H.length + 1) v) (.int .i64 (IntKind.i64.wrap (i + 1))) (Te.mk k n ls ks).cs := by
    intro i suf
    induction suf with
    | nil =>
      intro pre out ver h1 h2
      refine ⟨ver, ?_⟩
      rw [L_ref15_Consts_1, awL_eq, List.append_nil, onceL]
      simp only [↓reduceIte, go_sem]
    | cons x suf ih2 =>
      intro pre out ver h1 h2
      simp at h1 h2
      have h0 := loop0 pre.length (pre ++ x :: suf) x (.int .i64 i) (by simp) (by simp; omega) out ver (by omega) out [] rfl
      simp only [List.length_nil, Int.natCast_zero, List.contains_nil] at h0
      have hl := onceL_len [x] out
      simp only [onceL] at hl
      obtain ⟨v, h3⟩ := ih2 (pre ++ [x]) (if out.contains x then out else out ++ [x]) (if out.contains x then ver else ver + 1) (by simp only [List.length_cons, List.length_nil] at hl; omega) (by simp; omega)
      simp only [len_app, List.append_assoc, List.cons_append, List.nil_append] at h3
      refine ⟨v, ?_⟩
      rw [onceL, ← h3, ← h0, L_ref15_Consts_1, awL_eq]
      simp only [↓reduceIte, go_sem]
  have loop2 : ∀ (suf pre : List Te) (out : List Int) (ver : Nat), ks = pre ++ suf → out.length + (consTs suf).length ≤ 1073741824 → (∀ x ∈ suf, (subs x).length ≤ 1073741824) →
      L_ref15_Consts_2 H (H ++ [.lst 0 1 [], .lst ver 1 (i64s out)]) (.ol (H.length + 1) ver) (.int .i64 pre.length) (Te.mk k n ls ks).cs = some (.ret (.sl (i64s (onceL out (consTs suf)))), H) := by
    intro suf
    induction suf with
    | nil =>
      intro pre out ver e h1 h2
      subst e
      rw [L_ref15_Consts_2, awL_eq, consTs, onceL]
      simp only [↓reduceIte, go_sem, Te.cs]
    | cons x suf ih2 =>
      intro pre out ver e h1 h2
      subst e
      rw [consTs] at h1
      simp at h1 hlen
      have hx1 := h2 x (by simp)
      have hc := consN_len (subs x)
      have hle := onceL_len (consN (subs x)) []
      simp at hle
      obtain ⟨v, h3⟩ := loop1 pre.length (constL x) [] out ver (by unfold constL; omega) (by unfold constL; simp; omega)
      simp only [List.length_nil, Int.natCast_zero, List.nil_append, nat_wrap (n := pre.length) (by omega)] at h3
      have hr := ih x (by simp) (hl.all x (by simp)) hx1
      have hle2 := onceL_len (consN (subs x)) out
      have h4 := ih2 (pre ++ [x]) (onceL out (consN (subs x))) v (by simp) (by omega) (fun y hy => h2 y (by simp [hy]))
      simp only [len_app] at h4
      rw [consTs, onceL_app, ← h4]
      rw [show onceL out (constL x) = onceL out (consN (subs x)) from onceL_once _ [] out] at h3
      rw [← h3, L_ref15_Consts_2, awL_eq]
      simp only [↓reduceIte, go_sem, Te.cs, hr]
  have hsub : ∀ x ∈ ks, (subs x).length ≤ (subss ks).length := by
    clear loop0 loop1 loop2 hlen hl ih hx
    induction ks with
    | nil => simp
    | cons y r ih =>
      intro x hx
      rw [subss, List.length_append]
      rcases List.mem_cons.1 hx with rfl | hx
      · omega
      · have := ih x hx; omega
  rw [subs, List.length_cons] at hx
  have hcl := consN_len (subss ks)
  rw [consN_subss] at hcl
  have e : constL (.mk k n ls ks) = onceL (if k = 3 then [n] else []) (consTs ks) := by
    rw [constL, subs, consN, onceL_app, consN_subss]
    rw [show Te.kind (.mk k n ls ks) = k from rfl, show Te.n (.mk k n ls ks) = n from rfl]
    split <;> rfl
  have h0 := loop2 ks [] (if k = 3 then [n] else []) (if k = 3 then 1 else 0) rfl (by split <;> simp <;> omega) (fun x hx' => by have := hsub x hx'; omega)
  rw [← e] at h0
  rw [f_ref15_Consts, ← h0]
  by_cases h : k = 3
  · simp only [h] at *
    simp only [↓reduceIte, go_sem, Te.cs, i64s, List.map_cons, List.map_nil]
  · simp only [↓reduceIte, go_sem, Te.cs, h]
end Go.Ab
