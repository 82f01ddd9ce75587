/- What a term comes to: the program's spine is put together again. Conditions: none. -/
import Derived.Test.YtgcegmmobpibbaaGreatUd
set_option linter.unusedVariables false
set_option linter.unusedSimpArgs false
set_option maxRecDepth 100000
set_option maxHeartbeats 2000000
namespace Go.Ab
open Go.RowKit Go.Proofs

def stepsV : List (AV × AV) := [(.int .i64 7, .fn (.func reduce_spine_let) [] []), (.int .i64 3, .fn (.func reduce_spine_constant) [] []), (.int .i64 5, .fn (.func reduce_spine_lambda) [] []), (.int .i64 4, .fn (.func reduce_spine_app) [] [])]
theorem steps_ok (H : List AO) : F reduce_steps [] H = some (.ret (.fmap stepsV), H) := by
  rw [f_reduce_steps]
  simp only [↓reduceIte, go_sem, keysI, findI, stepsV]
theorem steps_keys : keysI .i64 stepsV = true := rfl
theorem steps_none (k : Int) (h : k ≠ 7 ∧ k ≠ 3 ∧ k ≠ 5 ∧ k ≠ 4) : findI k stepsV = some none := by
  simp only [findI, stepsV, if_neg h.1, if_neg h.2.1, if_neg h.2.2.1, if_neg h.2.2.2]
theorem steps_7 : findI 7 stepsV = some (some (.fn (.func reduce_spine_let) [] [])) := rfl
theorem steps_3 : findI 3 stepsV = some (some (.fn (.func reduce_spine_constant) [] [])) := rfl
theorem steps_5 : findI 5 stepsV = some (some (.fn (.func reduce_spine_lambda) [] [])) := rfl
theorem steps_4 : findI 4 stepsV = some (some (.fn (.func reduce_spine_app) [] [])) := rfl

abbrev encP (p : Int × Te) : List AV := [.int .i64 p.1, .agg p.2.cs]
/-- A list, from the end on, with the places. -/
def bkr : List Te → List (Int × Te)
  | [] => []
  | x :: r => (r.length, x) :: bkr r
def backV (id ver : Nat) : AV := .fn (.func slices_Backward_Term_1) [] [.fp [.ol id ver]]
theorem back_ok (id ver : Nat) (H : List AO) (hi : id < H.length) : F slices_Backward_Term [.ol id ver] H = some (.ret (backV id ver), H) := by
  rw [f_slices_Backward_Term]
  have h : Lt H.length (.fn (.func slices_Backward_Term_1) [] [.fp [.ol id ver]]) = True := by
    simp only [eq_iff_iff, iff_true]
    refine .fn (by simp) ?_
    intro x hx
    simp at hx
    subst hx
    exact .fp (by intro a ha; simp at ha; subst ha; exact .ol hi)
  simp only [↓reduceIte, go_sem, backV, h]
theorem back_seq {S E : Type} {y : AV} {m : Nat} {W : S → List AO} {WE : E → List AO} {stp : S → Int × Te → Option (S ⊕ E)} (hy : Ys y m encP W WE stp) (id ver : Nat) (es : List Te) (hes : es.length ≤ 1073741824) (hW : ∀ s, (W s)[id]? = some (.lst ver 4 (Te.css es)))
    (s : S) (X : List AO) (r : S ⊕ E) (hr : fold stp (bkr es.reverse) s = some r) : F slices_Backward_Term_1 [y, .fp [.ol id ver]] (W s ++ X) = some (.ret (.tup []), hp W WE r ++ X) := by
  have hone := hy.one
  have hcell : y.cells = [y] := by cases y <;> first | rfl | (simp [AV.one] at hone)
  unfold AV.cells at hcell
  unfold AV.one at hone
  have l1 : ∀ s, (W s).length = m := fun s => hy.len (.inl s)
  have hid : id < m := by
    have := hW s
    have := (List.getElem?_eq_some_iff.1 this).1
    rw [l1 s] at this; exact this
  have hWX : ∀ s, (W s ++ X)[id]? = some (.lst ver 4 (Te.css es)) := fun s => by rw [List.getElem?_append_left (by rw [l1]; exact hid), hW s]
  have hfin : ∀ r : S ⊕ E, fin1F (W s ++ X) (.ret (.tup [])) (hp W WE r ++ X) = some (.ret (.tup []), hp W WE r ++ X) := fun r => by
    have hf := fin1_yd (H := W s) (A := hp W WE r) (X := X) (J := []) (r := .ret (.tup [])) (by rw [hy.len r]; exact (l1 s).symm) (by rw [l1 s]; exact hy.fr s r) (show Lt _ _ from .tup (by simp))
    rwa [List.append_nil] at hf
  have loop : ∀ (rev post : List Te) (a : S), es = rev.reverse ++ post → fold stp (bkr rev) a = some r →
      L_slices_Backward_Term_1_0 (W s ++ X) (W a ++ X) y (.fp [.ol id ver]) (.int .i64 ((rev.length : Int) - 1)) = some (.ret (.tup []), hp W WE r ++ X) := by
    intro rev
    induction rev with
    | nil =>
      intro post a e hq
      simp only [bkr, fold] at hq
      cases hq
      have := hfin (.inl a)
      simp only [hp_inl] at this
      rw [L_slices_Backward_Term_1_0, awL_eq]
      simp only [↓reduceIte, go_sem, List.length_nil, Int.natCast_zero, show ¬ (0 : Int) ≤ -1 by decide, this]
    | cons x rev ih =>
      intro post a e hq
      have hl : rev.length < es.length := by rw [e]; simp
      have hg : es[rev.length]? = some x := by
        rw [e]; simp
      rw [bkr, fold] at hq
      obtain ⟨q, hst⟩ : ∃ q, stp a (rev.length, x) = some q := by
        cases h : stp a (rev.length, x) with
        | none => rw [h] at hq; cases hq
        | some q => exact ⟨q, rfl⟩
      rw [hst] at hq
      have hc := hy.call a (rev.length, x) X q hst
      simp only [encP] at hc
      rw [L_slices_Backward_Term_1_0, awL_eq]
      cases q with
      | inl a' =>
        have := ih (x :: post) a' (by rw [e]; simp) hq
        simp only [hp_inl] at hc
        simp only [↓reduceIte, go_sem, List.length_cons, Int.natCast_add, Int.natCast_one, Int.add_sub_cancel, show (0 : Int) ≤ (rev.length : Int) by omega, hWX, hg, hl, hc, isL, hone, hcell, wrap64 (n := (rev.length : Int) - 1) (by omega) (by omega), this]
      | inr e =>
        dsimp only at hq
        cases hq
        simp only [hp_inr] at hc
        have := hfin (.inr e)
        simp only [hp_inr] at this
        simp only [↓reduceIte, go_sem, List.length_cons, Int.natCast_add, Int.natCast_one, Int.add_sub_cancel, show (0 : Int) ≤ (rev.length : Int) by omega, hWX, hg, hl, hc, isL, hone, hcell, this]
  have := loop es.reverse [] s (by simp) hr
  simp only [List.length_reverse] at this
  rw [f_slices_Backward_Term_1]
  simp only [↓reduceIte, go_sem, hWX, wrap64 (n := (es.length : Int) - 1) (by omega) (by omega), this]

def headD (p : AV) (n ver : Nat) (es : List Te) (s : Te) : List AO := [.lst 0 3 [], .lst 0 4 [], .lst ver 4 (Te.css es), .box (p :: (s.cs ++ [.ol (n + 2) ver])), .box [.ptr (n + 3) 0]]
def headS (s : Te) (x : Int × Te) : Option (Te ⊕ Empty) := some (.inl (.mk 4 0 [] [s, x.2]))
theorem headD_lt (p : AV) (n ver : Nat) (es : List Te) (N : Nat) (hp : Lt N p) (hn : n + 3 < N) (s : Te) : ∀ o ∈ headD p n ver es s, LtO N o := by
  intro o ho
  simp only [headD, List.mem_cons, List.not_mem_nil, or_false] at ho
  rcases ho with rfl | rfl | rfl | rfl | rfl
  · intro a ha; simp at ha
  · intro a ha; simp at ha
  · exact fun a ha => of_eq_true (lt_tcss _ es) a ha
  · intro a ha
    rcases List.mem_cons.1 ha with rfl | ha
    · exact hp
    · rcases List.mem_append.1 ha with ha | ha
      · exact tcs_lt _ s a ha
      · simp at ha; subst ha; exact .ol (by omega)
  · intro a ha
    simp at ha; subst ha; exact .ptr (by omega)
theorem head_ys (H : List AO) (p : AV) (hp : Lt H.length p) (ver : Nat) (es : List Te) : Ys (.yd (H.length + 5 + 1)) (H.length + 5 + 2) encP (fun s => H ++ (headD p H.length ver es s ++ [.dfr, .slp .ready 60 [(5, .ptr (H.length + 4) 0)] [44, 45] s_reduce_Machine_Head_0 y_reduce_Machine_Head_0])) (fun e : Empty => H ++ (noE e ++ [.dfr, .slp (.done (noE e)) 60 [(5, .ptr (H.length + 4) 0)] [44, 45] s_reduce_Machine_Head_0 y_reduce_Machine_Head_0])) headS := by
  refine ys_of H 5 encP (headD p H.length ver es) noE noE headS 60 [(5, .ptr (H.length + 4) 0)] [44, 45] s_reduce_Machine_Head_0 y_reduce_Machine_Head_0 o_s_reduce_Machine_Head_0 o_y_reduce_Machine_Head_0 (fun _ => rfl) ?_ ?_ ?_ ?_
  · rintro (s | e)
    · rfl
    · exact e.elim
  · rintro s (s' | e) i o ho
    · exact .inr (headD_lt p H.length ver es _ (hp.mono (by omega)) (by omega) s' o (List.mem_of_getElem? ho))
    · exact e.elim
  · intro q hq; simp at hq; subst hq; exact .ptr (by omega)
  · rintro ⟨k, n, ls, ks⟩ ⟨i, a⟩ X r hst
    refine ⟨[], ?_⟩
    unfold headS at hst
    cases hst
    rcases a with ⟨k2, n2, ls2, ks2⟩
    simp only [↓reduceIte, go_sem, headD, encP, Te.cs, Te.css, Lv.css, lstO, isL]
def reb : Te → List (Int × Te) → Te
  | t, [] => t
  | t, x :: r => reb (.mk 4 0 [] [t, x.2]) r
theorem head_fold : ∀ (xs : List (Int × Te)) (t : Te), fold headS xs t = some (.inl (reb t xs))
  | [], t => rfl
  | x :: r, t => by rw [fold, reb]; exact head_fold r _
/-- A term with what it is applied to, the first one on top. -/
def rebuild (t : Te) (es : List Te) : Te := reb t (bkr es.reverse)
theorem rebuild_nil (t : Te) : rebuild t [] = t := rfl
theorem rebuild_snoc (t a : Te) (es : List Te) : rebuild t (es ++ [a]) = rebuild (.mk 4 0 [] [t, a]) es := by
  rw [rebuild, List.reverse_append, List.reverse_cons, List.reverse_nil, List.nil_append, List.cons_append, List.nil_append, bkr, reb]; rfl
end Go.Ab
