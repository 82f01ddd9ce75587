/- Goes through a term: the iterator; the numbers of the declarations in it. Conditions: none. -/
import Derived.Test.YtgcegmmobpibbaaGreatSb
set_option linter.unusedVariables false
set_option linter.unusedSimpArgs false
set_option maxRecDepth 100000
set_option maxHeartbeats 2000000
namespace Go.Ab
open Go.RowKit Go.Proofs

mutual
/-- A term, and all that is in it. -/
def subs : Te → List Te
  | .mk k n ls ks => .mk k n ls ks :: subss ks
def subss : List Te → List Te
  | [] => []
  | x :: r => subs x ++ subss r
end
abbrev encT (t : Te) : List AV := [.agg t.cs]
def allV (t : Te) : AV := .fn (.func tsub_all_1) [] [.fp t.cs]
theorem allV_ok (t : Te) (H : List AO) : F tsub_all [.agg t.cs] H = some (.ret (allV t), H) := by
  rw [f_tsub_all]
  cases t with
  | mk k n ls ks =>
  have h : Lt H.length (.fn (.func tsub_all_1) [] [.fp [.int .i64 k, .int .i64 n, .sl (Lv.css ls), .sl (Te.css ks)]]) = True := by
    simp only [eq_iff_iff, iff_true]
    refine .fn (by simp) ?_
    intro x hx
    simp at hx
    subst hx
    exact .fp (tcs_lt H.length (.mk k n ls ks))
  simp only [↓reduceIte, go_sem, allV, Te.cs, h]
/-- The frame of an all that ranges over a kid's, asleep. -/
def slpA (y : AV) (st : LSt) : AO := .slp st 25 [(2, .fp [y])] [19] s_tsub_all_1_0 y_tsub_all_1_0
theorem all_ys {S E : Type} {y : AV} {m : Nat} {W : S → List AO} {WE : E → List AO} {stp : S → Te → Option (S ⊕ E)} (hy : Ys y m encT W WE stp) (V : List AO) :
    Ys (.yd (m + V.length)) (m + V.length + 1) encT (fun s => W s ++ (V ++ [slpA y .ready])) (fun e => WE e ++ (V ++ [slpA y (.done .ret)])) stp := by
  have hhp : ∀ r : S ⊕ E, hp (fun s => W s ++ (V ++ [slpA y .ready])) (fun e => WE e ++ (V ++ [slpA y (.done .ret)])) r = hp W WE r ++ (V ++ [slpA y (if isL r = true then .ready else .done .ret)]) := fun r => by cases r <;> rfl
  refine ⟨rfl, .yd (by omega), ?_, ?_, ?_⟩
  · intro r
    have := hy.len r
    rw [hhp]; simp; omega
  · intro s r id o ho
    have l1 := hy.len (.inl s)
    have l2 := hy.len r
    have l1 : (W s).length = m := l1
    rw [hhp] at ho
    by_cases h1 : id < m
    · rw [List.getElem?_append_left (by omega)] at ho
      rcases hy.fr s r id o ho with k | k
      · exact .inl (by rw [List.getElem?_append_left (by omega)]; exact k)
      · exact .inr (k.mono (by omega))
    · rw [List.getElem?_append_right (by omega)] at ho
      rw [List.getElem?_append_right (by omega), l1, ← l2]
      by_cases h2 : id - (hp W WE r).length < V.length
      · rw [List.getElem?_append_left h2] at ho ⊢; exact .inl ho
      · rw [List.getElem?_append_right (by omega)] at ho
        cases h3 : id - (hp W WE r).length - V.length with
        | zero =>
          rw [h3] at ho; simp at ho; subst ho
          refine .inr fun p hp => ?_
          simp at hp; subst hp
          exact .fp (by intro a ha; simp at ha; subst ha; exact hy.lt.mono (by omega))
        | succ j => rw [h3] at ho; simp at ho
  · intro s x Z r hst
    rw [hhp]
    have hl : (W s).length = m := hy.len (.inl s)
    have hl2 := hy.len r
    have hfr : ∀ (id : Nat) (o : AO), (hp W WE r)[id]? = some o → (W s)[id]? = some o ∨ LtO (W s).length o := by rw [hl]; exact hy.fr s r
    have hc := hy.call s x (V ++ slpA y .busy :: Z) r hst
    have hlt : ∀ (st : LSt), LtO (W s ++ (V ++ slpA y .ready :: Z)).length (slpA y st) := fun st p hp => by
      simp at hp; subst hp
      exact .fp (by intro a ha; simp at ha; subst ha; exact hy.lt.mono (by simp; omega))
    have g1 : (W s ++ (V ++ slpA y .ready :: Z))[m + V.length]? = some (slpA y .ready) := by rw [← hl]; exact mid_get
    have s1 : (W s ++ (V ++ slpA y .ready :: Z)).set (m + V.length) (slpA y .busy) = W s ++ (V ++ slpA y .busy :: Z) := by rw [← hl]; exact mid_set
    have g2 : (hp W WE r ++ (V ++ slpA y .busy :: Z))[m + V.length]? = some (slpA y .busy) := by rw [← hl2]; exact mid_get
    have s2 : ∀ st, (hp W WE r ++ (V ++ slpA y .busy :: Z)).set (m + V.length) (slpA y st) = hp W WE r ++ (V ++ slpA y st :: Z) := fun st => by rw [← hl2]; exact mid_set
    have e1 : ∀ st b, yEndF (W s ++ (V ++ slpA y .ready :: Z)) (m + V.length) st b (hp W WE r ++ (V ++ slpA y .busy :: Z)) = some (.ret (.bool b), hp W WE r ++ (V ++ slpA y st :: Z)) := fun st b => by
      have := yEndF_at (H := W s ++ (V ++ slpA y .ready :: Z)) (st := st) (b := b) g2
      rw [this]
      show fin1F _ _ ((hp W WE r ++ (V ++ slpA y .busy :: Z)).set (m + V.length) (slpA y st)) = _
      rw [s2 st]
      exact fin1_mid (by rw [hl2, hl]) hfr (hlt st) (.bool _)
    simp only [List.append_assoc, List.cons_append, List.nil_append]
    rw [cfl_yd g1 rfl o_s_tsub_all_1_0 o_y_tsub_all_1_0]
    unfold slpA at g1 s1 hc e1
    unfold slpA
    cases x with
    | mk xk xn xls xks =>
    simp only [encT, Te.cs] at hc ⊢
    cases h : isL r with
    | true => simp only [↓reduceIte, go_sem, g1, s1, hc, h, e1]
    | false => simp only [↓reduceIte, go_sem, g1, s1, hc, h, e1]

theorem all_seq (t : Te) : t.ok → IsSeq (allV t) encT (subs t) := by
  induction t using Te.ind with
  | h k n ls ks ih =>
  intro hl S E y m W WE stp hy s X r hr
  rw [allV]
  simp only [cfl_f1, List.cons_append, List.nil_append]
  have hlen := hl.len
  have hone := hy.one
  have hcell : y.cells = [y] := by cases y <;> first | rfl | (simp [AV.one] at hone)
  unfold AV.cells at hcell
  unfold AV.one at hone
  have loop : ∀ (suf pre : List Te) (a : S), ks = pre ++ suf → fold stp (subss suf) a = some r →
      L_tsub_all_1_0 (W s ++ X) (W a ++ (X ++ jk pre.length)) (dsl (m + X.length) pre.length) (.fp [y]) (.sl (Te.css ks)) (.int .i64 ks.length) (.int .i64 pre.length) = some (.ret (.tup []), hp W WE r ++ X) := by
    intro suf
    induction suf with
    | nil =>
      intro pre a e hq2
      subst e
      simp only [subss, fold] at hq2
      cases hq2
      rw [L_tsub_all_1_0, awL_eq]
      simp only [↓reduceIte, go_sem]
      exact finY_jk hy s (.inl a) X pre.length (.inl rfl) _ _
    | cons x suf ih2 =>
      intro pre a e hq2
      subst e
      simp at hlen
      have lA : (W a).length = m := hy.len (.inl a)
      have hn : (W a ++ (X ++ jk pre.length)).length = m + (X.length + 2 * pre.length) := by simp [lA, jk_len]
      have hd : dfrs (W a ++ (X ++ jk pre.length)) (dsl (m + X.length) pre.length) = true := by
        have := dfrs_jk (W a ++ X) pre.length []
        simpa [lA] using this
      have hrd : inRd (W a ++ (X ++ jk pre.length)) (dsl (m + X.length) pre.length) = false := by
        have := inRd_jk (W a ++ X) pre.length []
        simpa [lA] using this
      rw [subss, fold_app] at hq2
      obtain ⟨q, hq⟩ : ∃ q, fold stp (subs x) a = some q := by
        cases h : fold stp (subs x) a with
        | none => rw [h] at hq2; cases hq2
        | some q => exact ⟨q, rfl⟩
      rw [hq] at hq2
      have hx := ih x (by simp) (hl.all x (by simp)) _ _ _ _ _ _ _ (all_ys hy (X ++ (jk pre.length ++ [.dfr]))) a [] q hq
      have lA' := hy.len q
      simp only [allV, cfl_f1, List.append_nil, List.append_assoc, List.cons_append, List.nil_append, List.length_append, jk_len, List.length_cons, List.length_nil, slpA] at hx
      have hds : (m + (X.length + 2 * pre.length)) :: dsl (m + X.length) pre.length = dsl (m + X.length) (pre.length + 1) := by rw [dsl]; congr 1; omega
      have hg : ∀ st, (hp W WE q ++ (X ++ (jk pre.length ++ [AO.dfr, AO.slp st 25 [(2, .fp [y])] [19] s_tsub_all_1_0 y_tsub_all_1_0])))[m + (X.length + (2 * pre.length + 1))]? = some (AO.slp st 25 [(2, .fp [y])] [19] s_tsub_all_1_0 y_tsub_all_1_0) := by
        intro st
        rw [← lA', List.getElem?_append_right (by omega), List.getElem?_append_right (by omega), List.getElem?_append_right (by rw [jk_len]; omega), jk_len]
        rw [show (hp W WE q).length + (X.length + (2 * pre.length + 1)) - (hp W WE q).length - X.length - 2 * pre.length = 1 by omega]
        rfl
      have hs : ∀ st, (hp W WE q ++ (X ++ (jk pre.length ++ [AO.dfr, AO.slp st 25 [(2, .fp [y])] [19] s_tsub_all_1_0 y_tsub_all_1_0]))).set (m + (X.length + (2 * pre.length + 1))) .dead = hp W WE q ++ (X ++ jk (pre.length + 1)) := by
        intro st
        rw [← lA', List.set_append_right _ _ (by omega), List.set_append_right _ _ (by omega), List.set_append_right _ _ (by rw [jk_len]; omega), jk_len]
        rw [show (hp W WE q).length + (X.length + (2 * pre.length + 1)) - (hp W WE q).length - X.length - 2 * pre.length = 1 by omega]
        rfl
      rw [L_tsub_all_1_0, awL_eq]
      cases q with
      | inl a' =>
        have := ih2 (pre ++ [x]) a' (by simp) hq2
        simp only [len_app, len_snoc, Int.natCast_add, Int.natCast_one] at this
        simp only [hp_inl] at hx hg hs
        rw [← this]
        simp only [↓reduceIte, go_sem, allV_ok, allV, hn, hd, hrd, hx, hg, hs, hds, nat_wrap (n := pre.length) (by omega)]
      | inr e =>
        dsimp only at hq2
        cases hq2
        have := fun t ls => finY_jk hy s (.inr e) X (pre.length + 1) (o := .ret) (.inr rfl) t ls
        simp only [hp_inr] at hx hg hs this ⊢
        simp only [↓reduceIte, go_sem, allV_ok, allV, hn, hd, hrd, hx, hg, hs, hds, this]
  rw [show subs (.mk k n ls ks) = .mk k n ls ks :: subss ks by rw [subs], fold] at hr
  obtain ⟨q, hq⟩ : ∃ q, stp s (.mk k n ls ks) = some q := by
    cases h : stp s (.mk k n ls ks) with
    | none => rw [h] at hr; cases hr
    | some q => exact ⟨q, rfl⟩
  have hc := hy.call s _ X q hq
  rw [hq] at hr
  simp only [encT, Te.cs] at hc
  show F tsub_all_1 _ _ = _
  rw [f_tsub_all_1]
  cases q with
  | inl a =>
    have h0 := loop ks [] a rfl hr
    simp only [List.length_nil, Int.natCast_zero, jk, dsl, List.append_nil] at h0
    rw [← h0]
    simp only [hp_inl] at hc
    simp only [↓reduceIte, go_sem, Te.cs, hone, hcell, hc, isL]
  | inr e =>
    dsimp only at hr
    cases hr
    simp only [hp_inr] at hc
    have l1 : (W s).length = m := hy.len (.inl s)
    have l2 : (WE e).length = m := hy.len (.inr e)
    have hf := fin1_yd (H := W s) (A := WE e) (X := X) (J := []) (r := .ret (.tup [])) (by rw [l2]; exact l1.symm) (by rw [l1]; exact hy.fr s (.inr e)) (show Lt _ _ from .tup (by simp))
    rw [List.append_nil] at hf
    simp only [↓reduceIte, go_sem, Te.cs, hone, hcell, hc, isL]
    exact hf
end Go.Ab
