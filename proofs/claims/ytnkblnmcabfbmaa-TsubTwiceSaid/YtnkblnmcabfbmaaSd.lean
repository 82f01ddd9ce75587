/- The numbers of the unknowns in a term: the program's function. Conditions: none. -/
import Derived.Test.YtnkblnmcabfbmaaSc
set_option linter.unusedVariables false
set_option linter.unusedSimpArgs false
set_option maxRecDepth 100000
set_option maxHeartbeats 2000000
namespace Go.Ab
open Go.RowKit Go.Proofs

def Te.ls : Te → List Lv
  | .mk _ _ l _ => l
def lvN : List Lv → List Int
  | [] => []
  | l :: r => namesL 6 l ++ lvN r
def metP : Nat × List Int → List Lv → Nat × List Int
  | p, [] => p
  | p, l :: r => metP (onceP p (onceL [] (namesL 6 l))) r
theorem metP_two : ∀ (ls : List Lv) (p : Nat × List Int), (metP p ls).2 = onceL p.2 (lvN ls)
  | [], p => rfl
  | l :: r, p => by rw [metP, metP_two r, onceP_two, lvN, onceL_app, onceL_once]; rfl
def metN : List Te → List Int
  | [] => []
  | x :: r => lvN x.ls ++ metN r
open Classical in
noncomputable def metS (p : Nat × List Int) (x : Te) : Option ((Nat × List Int) ⊕ Empty) := if p.2.length + (lvN x.ls).length ≤ 1073741824 ∧ (x.ls.length ≤ 140737488355328 ∧ ∀ l ∈ x.ls, l.ok) then some (.inl (metP p x.ls)) else none
def slpM (n : Nat) (st : LSt) : AO := .slp st 25 [(2, .ptr (n + 1) 0), (3, .ptr (n + 3) 0)] [10] s_tsub_Metas_0 y_tsub_Metas_0
theorem met_loop (HH H X : List AO) (id : Nat) (st : AO) (ls : List Lv) (hlen : ls.length ≤ 140737488355328) (hok : ∀ l ∈ ls, l.ok) : ∀ (suf pre : List Lv) (p : Nat × List Int), ls = pre ++ suf → p.2.length + (lvN suf).length ≤ 1073741824 →
    L_tsub_Metas_0 HH (H ++ (constD H.length p ++ (.dfr :: st :: X))) id (.ptr (H.length + 1) 0) (.ptr (H.length + 3) 0) (.sl (Lv.css ls)) (.int .i64 ls.length) (.int .i64 pre.length) =
    yEndF HH id .ready true (H ++ (constD H.length (metP p suf) ++ (.dfr :: st :: X))) := by
  intro suf
  induction suf with
  | nil =>
    intro pre p e hp
    subst e
    rw [L_tsub_Metas_0, awL_eq]
    simp only [↓reduceIte, go_sem, metP]
  | cons x suf ih =>
    rintro pre ⟨v, es⟩ e hp
    rw [lvN, List.length_append] at hp
    dsimp only at hp
    have hl1 := onceL_len (namesL 6 x) []
    have hl2 := onceL_len (namesL 6 x) es
    simp at hl1
    have hM := fun H => Metas_ok x (hok x (by rw [e]; simp)) (by omega) H
    have hc := oncel_ok (.box [.ol H.length v]) (onceL [] (namesL 6 x)) (by omega) H (.box [.mp (H.length + 2)] :: .dfr :: st :: X) v es (by omega)
    have h2 := onceP_two (onceL [] (namesL 6 x)) (v, es)
    have := ih (pre ++ [x]) (onceP (v, es) (onceL [] (namesL 6 x))) (by rw [e]; simp) (by rw [h2]; rw [onceL_once]; simp only [onceL]; omega)
    have hg : ls[pre.length]? = some x := by rw [e]; simp
    have hlt : (pre.length : Int) < ls.length := by rw [e]; simp; omega
    have hpl : pre.length + 1 ≤ 140737488355328 := by rw [e] at hlen; simp at hlen; omega
    simp only [len_app] at this
    rw [L_tsub_Metas_0, awL_eq, metP]
    simp only [constD, List.cons_append, List.nil_append] at this ⊢
    rcases x with ⟨k, n, ks⟩
    simp only [Lv.cs] at hM
    simp only [↓reduceIte, go_sem, Lv.cs, hg, hlt, hM, hc, nat_wrap (n := pre.length) (by omega), this]
theorem met_ys (H : List AO) : Ys (.yd (H.length + 4 + 1)) (H.length + 4 + 2) encT (fun p => H ++ (constD H.length p ++ [.dfr, slpM H.length .ready])) (fun e : Empty => H ++ (noE e ++ [.dfr, slpM H.length (.done (noE e))])) metS := by
  refine ys_of H 4 encT (constD H.length) noE noE metS 25 [(2, .ptr (H.length + 1) 0), (3, .ptr (H.length + 3) 0)] [10] s_tsub_Metas_0 y_tsub_Metas_0 o_s_tsub_Metas_0 o_y_tsub_Metas_0 (fun _ => rfl) ?_ ?_ ?_ ?_
  · rintro (p | e)
    · rfl
    · exact e.elim
  · rintro s (p | e) i o ho
    · match i, ho with
      | 0, ho => simp [hp_inl, constD] at ho; subst ho; exact .inr fun a ha => i64s_lt _ _ a ha
      | 1, ho => simp [hp_inl, constD] at ho; subst ho; exact .inr fun a ha => by simp at ha; subst ha; exact .ol (by omega)
      | 2, ho => simp [hp_inl, constD] at ho; subst ho; exact .inr (hadE_lt _ _)
      | 3, ho => simp [hp_inl, constD] at ho; subst ho; exact .inl (by simp [constD])
      | j + 4, ho => simp [hp_inl, constD] at ho
    · exact e.elim
  · intro p hp; simp at hp; rcases hp with rfl | rfl <;> exact .ptr (by omega)
  · rintro p ⟨k, n, ls, ks⟩ X r hst
    refine ⟨[], ?_⟩
    unfold metS at hst
    split at hst
    · rename_i h2
      cases hst
      have := fun HH => met_loop HH H X (H.length + 4 + 1) (slpM H.length .busy) ls h2.2.1 h2.2.2 ls [] p rfl h2.1
      simp only [List.length_nil, Int.natCast_zero, constD, slpM, List.cons_append, List.nil_append] at this
      simp only [↓reduceIte, go_sem, constD, encT, Te.cs, Te.ls, List.append_nil, lstO, isL, this, List.cons_append, List.nil_append]
    · cases hst
theorem met_fold : ∀ (xs : List Te) (ver : Nat) (es : List Int), (∀ x ∈ xs, x.ls.length ≤ 140737488355328 ∧ ∀ l ∈ x.ls, l.ok) → es.length + (metN xs).length ≤ 1073741824 → ∃ v, fold metS xs (ver, es) = some (.inl (v, onceL es (metN xs)))
  | [], ver, es, _, _ => ⟨ver, rfl⟩
  | x :: r, ver, es, ho, h => by
    rw [metN, List.length_append] at h
    have hl := onceL_len (lvN x.ls) es
    rw [fold, metN, onceL_app]
    unfold metS
    rw [if_pos ⟨by simp only; omega, ho x (by simp)⟩]
    have := metP_two x.ls (ver, es)
    rw [show metP (ver, es) x.ls = ((metP (ver, es) x.ls).1, onceL es (lvN x.ls)) from Prod.ext rfl this]
    exact met_fold r _ _ (fun y hy => ho y (by simp [hy])) (by omega)
mutual
theorem subs_ok : ∀ (t : Te), t.ok → ∀ x ∈ subs t, x.ok
  | .mk k n ls ks, h, x, hx => by
    rw [subs] at hx
    rcases List.mem_cons.1 hx with rfl | hx
    · exact h
    · exact subss_ok ks h.all x hx
theorem subss_ok : ∀ (ks : List Te), (∀ k ∈ ks, k.ok) → ∀ x ∈ subss ks, x.ok
  | [], _, x, hx => by cases hx
  | y :: r, h, x, hx => by
    rw [subss] at hx
    rcases List.mem_append.1 hx with hx | hx
    · exact subs_ok y (h y (by simp)) x hx
    · exact subss_ok r (fun k hk => h k (by simp [hk])) x hx
end
def metL (t : Te) : List Int := onceL [] (metN (subs t))
theorem TMetas_ok (t : Te) (ht : t.ok) (hx : (metN (subs t)).length ≤ 1073741824) (H : List AO) : F tsub_Metas [.agg t.cs] H = some (.ret (.sl (i64s (metL t))), H) := by
  obtain ⟨v, hv⟩ := met_fold (subs t) 0 [] (fun x h => by
    have := subs_ok t ht x h
    rcases x with ⟨k, n, ls, ks⟩
    exact ⟨this.len2, this.all2⟩) (by simpa using hx)
  have hr := all_seq t ht _ _ _ _ _ _ _ (met_ys H) (0, []) [] _ hv
  have he := rf_end (H := H) (DR := constD H.length (v, metL t)) (k := 4) rfl (st := .ready) (nn := 25) (t := [(2, .ptr (H.length + 1) 0), (3, .ptr (H.length + 3) 0)]) (ps := [10]) (asg := s_tsub_Metas_0) (body := y_tsub_Metas_0)
  have ha := allV_ok t
  cases t with
  | mk k n ls ks =>
  unfold metL at he ⊢
  simp only [allV, Te.cs] at ha hr
  simp only [hp_inl, constD, slpM, cfl_f1, List.cons_append, List.nil_append, List.append_nil, Nat.add_assoc, Nat.reduceAdd, i64s_nil, hadE_nil] at hr he
  rw [f_tsub_Metas]
  simp only [↓reduceIte, go_sem, Te.cs, ha, hr, he, List.mem_cons, List.not_mem_nil, or_false, forall_eq, List.nodup_cons, List.nodup_nil, not_false_eq_true, and_self]
end Go.Ab
