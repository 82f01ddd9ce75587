/- Goes through a term: the iterator; the numbers of the declarations in it. Conditions: none. -/
import Derived.Test.YtnkblnmcabfbmaaSa
set_option linter.unusedVariables false
set_option linter.unusedSimpArgs false
set_option maxRecDepth 100000
set_option maxHeartbeats 2000000
namespace Go.Ab
open Go.RowKit Go.Proofs


mutual
/-- A term, and all that is in it. -/
def subs : Te → List Te
  | .mk k n ls ks => .mk k n ls ks :: subss ks
def subss : List Te → List Te
  | [] => []
  | x :: r => subs x ++ subss r
end
abbrev encT (t : Te) : List AV := [.agg t.cs]
def allV (t : Te) : AV := .fn (.func tsub_all_1) [] [.fp t.cs]
theorem allV_ok (t : Te) (H : List AO) : F tsub_all [.agg t.cs] H = some (.ret (allV t), H) := by
  rw [f_tsub_all]
  cases t with
  | mk k n ls ks =>
  have h : Lt H.length (.fn (.func tsub_all_1) [] [.fp [.int .i64 k, .int .i64 n, .sl (Lv.css ls), .sl (Te.css ks)]]) = True := by
    simp only [eq_iff_iff, iff_true]
    refine .fn (by simp) ?_
    intro x hx
    simp at hx
    subst hx
    exact .fp (tcs_lt H.length (.mk k n ls ks))
  simp only [↓reduceIte, go_sem, allV, Te.cs, h]
/-- The frame of an all that ranges over a kid's, asleep. -/
def slpA (y : AV) (st : LSt) : AO := .slp st 25 [(2, .fp [y])] [19] s_tsub_all_1_0 y_tsub_all_1_0
theorem all_ys {S E : Type} {y : AV} {m : Nat} {W : S → List AO} {WE : E → List AO} {stp : S → Te → Option (S ⊕ E)} (hy : Ys y m encT W WE stp) (V : List AO) :
    Ys (.yd (m + V.length)) (m + V.length + 1) encT (fun s => W s ++ (V ++ [slpA y .ready])) (fun e => WE e ++ (V ++ [slpA y (.done .ret)])) stp := by
  have hhp : ∀ r : S ⊕ E, hp (fun s => W s ++ (V ++ [slpA y .ready])) (fun e => WE e ++ (V ++ [slpA y (.done .ret)])) r = hp W WE r ++ (V ++ [slpA y (if isL r = true then .ready else .done .ret)]) := fun r => by cases r <;> rfl
  refine ⟨rfl, .yd (by omega), ?_, ?_, ?_⟩
  · intro r
    have := hy.len r
    rw [hhp]; simp; omega
  · intro s r id o ho
    have l1 := hy.len (.inl s)
    have l2 := hy.len r
    have l1 : (W s).length = m := l1
    rw [hhp] at ho
    by_cases h1 : id < m
    · rw [List.getElem?_append_left (by omega)] at ho
      rcases hy.fr s r id o ho with k | k
      · exact .inl (by rw [List.getElem?_append_left (by omega)]; exact k)
      · exact .inr (k.mono (by omega))
    · rw [List.getElem?_append_right (by omega)] at ho
      rw [List.getElem?_append_right (by omega), l1, ← l2]
      by_cases h2 : id - (hp W WE r).length < V.length
      · rw [List.getElem?_append_left h2] at ho ⊢; exact .inl ho
      · rw [List.getElem?_append_right (by omega)] at ho
        cases h3 : id - (hp W WE r).length - V.length with
        | zero =>
          rw [h3] at ho; simp at ho; subst ho
          refine .inr fun p hp => ?_
          simp at hp; subst hp
          exact .fp (by intro a ha; simp at ha; subst ha; exact hy.lt.mono (by omega))
        | succ j => rw [h3] at ho; simp at ho
  · intro s x Z r hst
    rw [hhp]
    have hl : (W s).length = m := hy.len (.inl s)
    have hl2 := hy.len r
    have hfr : ∀ (id : Nat) (o : AO), (hp W WE r)[id]? = some o → (W s)[id]? = some o ∨ LtO (W s).length o := by rw [hl]; exact hy.fr s r
    have hc := hy.call s x (V ++ slpA y .busy :: Z) r hst
    have hlt : ∀ (st : LSt), LtO (W s ++ (V ++ slpA y .ready :: Z)).length (slpA y st) := fun st p hp => by
      simp at hp; subst hp
      exact .fp (by intro a ha; simp at ha; subst ha; exact hy.lt.mono (by simp; omega))
    have g1 : (W s ++ (V ++ slpA y .ready :: Z))[m + V.length]? = some (slpA y .ready) := by rw [← hl]; exact mid_get
    have s1 : (W s ++ (V ++ slpA y .ready :: Z)).set (m + V.length) (slpA y .busy) = W s ++ (V ++ slpA y .busy :: Z) := by rw [← hl]; exact mid_set
    have g2 : (hp W WE r ++ (V ++ slpA y .busy :: Z))[m + V.length]? = some (slpA y .busy) := by rw [← hl2]; exact mid_get
    have s2 : ∀ st, (hp W WE r ++ (V ++ slpA y .busy :: Z)).set (m + V.length) (slpA y st) = hp W WE r ++ (V ++ slpA y st :: Z) := fun st => by rw [← hl2]; exact mid_set
    have e1 : ∀ st b, yEndF (W s ++ (V ++ slpA y .ready :: Z)) (m + V.length) st b (hp W WE r ++ (V ++ slpA y .busy :: Z)) = some (.ret (.bool b), hp W WE r ++ (V ++ slpA y st :: Z)) := fun st b => by
      have := yEndF_at (H := W s ++ (V ++ slpA y .ready :: Z)) (st := st) (b := b) g2
      rw [this]
      show fin1F _ _ ((hp W WE r ++ (V ++ slpA y .busy :: Z)).set (m + V.length) (slpA y st)) = _
      rw [s2 st]
      exact fin1_mid (by rw [hl2, hl]) hfr (hlt st) (.bool _)
    simp only [List.append_assoc, List.cons_append, List.nil_append]
    rw [cfl_yd g1 rfl o_s_tsub_all_1_0 o_y_tsub_all_1_0]
    unfold slpA at g1 s1 hc e1
    unfold slpA
    cases x with
    | mk xk xn xls xks =>
    simp only [encT, Te.cs] at hc ⊢
    cases h : isL r with
    | true => simp only [↓reduceIte, go_sem, g1, s1, hc, h, e1]
    | false => simp only [↓reduceIte, go_sem, g1, s1, hc, h, e1]

theorem all_seq (t : Te) : t.ok → IsSeq (allV t) encT (subs t) := by
  induction t using Te.ind with
  | h k n ls ks ih =>
  intro hl S E y m W WE stp hy s X r hr
  rw [allV]
  simp only [cfl_f1, List.cons_append, List.nil_append]
  have hlen := hl.len
  have hone := hy.one
  have hcell : y.cells = [y] := by cases y <;> first | rfl | (simp [AV.one] at hone)
  unfold AV.cells at hcell
  unfold AV.one at hone
  have loop : ∀ (suf pre : List Te) (a : S), ks = pre ++ suf → fold stp (subss suf) a = some r →
      L_tsub_all_1_0 (W s ++ X) (W a ++ (X ++ jk pre.length)) (dsl (m + X.length) pre.length) (.fp [y]) (.sl (Te.css ks)) (.int .i64 ks.length) (.int .i64 pre.length) = some (.ret (.tup []), hp W WE r ++ X) := by
    intro suf
    induction suf with
    | nil =>
      intro pre a e hq2
      subst e
      simp only [subss, fold] at hq2
      cases hq2
      rw [L_tsub_all_1_0, awL_eq]
      simp only [↓reduceIte, go_sem]
      exact finY_jk hy s (.inl a) X pre.length (.inl rfl) _ _
    | cons x suf ih2 =>
      intro pre a e hq2
      subst e
      simp at hlen
      have lA : (W a).length = m := hy.len (.inl a)
      have hn : (W a ++ (X ++ jk pre.length)).length = m + (X.length + 2 * pre.length) := by simp [lA, jk_len]
      have hd : dfrs (W a ++ (X ++ jk pre.length)) (dsl (m + X.length) pre.length) = true := by
        have := dfrs_jk (W a ++ X) pre.length []
        simpa [lA] using this
      have hrd : inRd (W a ++ (X ++ jk pre.length)) (dsl (m + X.length) pre.length) = false := by
        have := inRd_jk (W a ++ X) pre.length []
        simpa [lA] using this
      rw [subss, fold_app] at hq2
      obtain ⟨q, hq⟩ : ∃ q, fold stp (subs x) a = some q := by
        cases h : fold stp (subs x) a with
        | none => rw [h] at hq2; cases hq2
        | some q => exact ⟨q, rfl⟩
      rw [hq] at hq2
      have hx := ih x (by simp) (hl.all x (by simp)) _ _ _ _ _ _ _ (all_ys hy (X ++ (jk pre.length ++ [.dfr]))) a [] q hq
      have lA' := hy.len q
      simp only [allV, cfl_f1, List.append_nil, List.append_assoc, List.cons_append, List.nil_append, List.length_append, jk_len, List.length_cons, List.length_nil, slpA] at hx
      have hds : (m + (X.length + 2 * pre.length)) :: dsl (m + X.length) pre.length = dsl (m + X.length) (pre.length + 1) := by rw [dsl]; congr 1; omega
      have hg : ∀ st, (hp W WE q ++ (X ++ (jk pre.length ++ [AO.dfr, AO.slp st 25 [(2, .fp [y])] [19] s_tsub_all_1_0 y_tsub_all_1_0])))[m + (X.length + (2 * pre.length + 1))]? = some (AO.slp st 25 [(2, .fp [y])] [19] s_tsub_all_1_0 y_tsub_all_1_0) := by
        intro st
        rw [← lA', List.getElem?_append_right (by omega), List.getElem?_append_right (by omega), List.getElem?_append_right (by rw [jk_len]; omega), jk_len]
        rw [show (hp W WE q).length + (X.length + (2 * pre.length + 1)) - (hp W WE q).length - X.length - 2 * pre.length = 1 by omega]
        rfl
      have hs : ∀ st, (hp W WE q ++ (X ++ (jk pre.length ++ [AO.dfr, AO.slp st 25 [(2, .fp [y])] [19] s_tsub_all_1_0 y_tsub_all_1_0]))).set (m + (X.length + (2 * pre.length + 1))) .dead = hp W WE q ++ (X ++ jk (pre.length + 1)) := by
        intro st
        rw [← lA', List.set_append_right _ _ (by omega), List.set_append_right _ _ (by omega), List.set_append_right _ _ (by rw [jk_len]; omega), jk_len]
        rw [show (hp W WE q).length + (X.length + (2 * pre.length + 1)) - (hp W WE q).length - X.length - 2 * pre.length = 1 by omega]
        rfl
      rw [L_tsub_all_1_0, awL_eq]
      cases q with
      | inl a' =>
        have := ih2 (pre ++ [x]) a' (by simp) hq2
        simp only [len_app, len_snoc, Int.natCast_add, Int.natCast_one] at this
        simp only [hp_inl] at hx hg hs
        rw [← this]
        simp only [↓reduceIte, go_sem, allV_ok, allV, hn, hd, hrd, hx, hg, hs, hds, nat_wrap (n := pre.length) (by omega)]
      | inr e =>
        dsimp only at hq2
        cases hq2
        have := fun t ls => finY_jk hy s (.inr e) X (pre.length + 1) (o := .ret) (.inr rfl) t ls
        simp only [hp_inr] at hx hg hs this ⊢
        simp only [↓reduceIte, go_sem, allV_ok, allV, hn, hd, hrd, hx, hg, hs, hds, this]
  rw [show subs (.mk k n ls ks) = .mk k n ls ks :: subss ks by rw [subs], fold] at hr
  obtain ⟨q, hq⟩ : ∃ q, stp s (.mk k n ls ks) = some q := by
    cases h : stp s (.mk k n ls ks) with
    | none => rw [h] at hr; cases hr
    | some q => exact ⟨q, rfl⟩
  have hc := hy.call s _ X q hq
  rw [hq] at hr
  simp only [encT, Te.cs] at hc
  show F tsub_all_1 _ _ = _
  rw [f_tsub_all_1]
  cases q with
  | inl a =>
    have h0 := loop ks [] a rfl hr
    simp only [List.length_nil, Int.natCast_zero, jk, dsl, List.append_nil] at h0
    rw [← h0]
    simp only [hp_inl] at hc
    simp only [↓reduceIte, go_sem, Te.cs, hone, hcell, hc, isL]
  | inr e =>
    dsimp only at hr
    cases hr
    simp only [hp_inr] at hc
    have l1 : (W s).length = m := hy.len (.inl s)
    have l2 : (WE e).length = m := hy.len (.inr e)
    have hf := fin1_yd (H := W s) (A := WE e) (X := X) (J := []) (r := .ret (.tup [])) (by rw [l2]; exact l1.symm) (by rw [l1]; exact hy.fr s (.inr e)) (show Lt _ _ from .tup (by simp))
    rw [List.append_nil] at hf
    simp only [↓reduceIte, go_sem, Te.cs, hone, hcell, hc, isL]
    exact hf


def hadE (L : List Int) : List (AV × AV) := L.map fun n => (.int .i64 n, .agg [])
@[go_sem] theorem hadE_keys : ∀ L : List Int, keysI .i64 (hadE L) = true
  | [] => rfl
  | n :: r => by show keysI .i64 ((.int .i64 n, .agg []) :: hadE r) = true; simp only [keysI, if_pos, hadE_keys r]
@[go_sem] theorem hadE_find (n : Int) : ∀ L : List Int, findI n (hadE L) = some (if L.contains n then some (.agg []) else none)
  | [] => rfl
  | m :: r => by
    show findI n ((.int .i64 m, .agg []) :: hadE r) = _
    rw [findI, hadE_find n r]
    by_cases h : n = m
    · subst h; simp
    · simp [h]
@[go_sem] theorem hadE_nil : hadE [] = [] := rfl
theorem hadE_snoc (L : List Int) (n : Int) : hadE L ++ [(.int .i64 n, .agg [])] = hadE (L ++ [n]) := by simp [hadE]
theorem hadE_lt (n : Nat) (L : List Int) : LtO n (.mapo (hadE L)) := by
  constructor
  · intro p hp; obtain ⟨x, _, rfl⟩ := List.mem_map.1 hp; exact .int _ _
  · intro p hp; obtain ⟨x, _, rfl⟩ := List.mem_map.1 hp; exact .agg (by simp)
/-- A list, and how often it was written: with numbers put behind, each once. -/
def onceP : Nat × List Int → List Int → Nat × List Int
  | p, [] => p
  | p, n :: r => onceP (if p.2.contains n then p else (p.1 + 1, p.2 ++ [n])) r
theorem onceP_two : ∀ (xs : List Int) (p : Nat × List Int), (onceP p xs).2 = onceL p.2 xs
  | [], p => rfl
  | n :: r, p => by
    rw [onceP, onceL, onceP_two r]
    by_cases h : p.2.contains n = true
    · rw [if_pos h, if_pos h]
    · rw [if_neg h, if_neg h]
theorem fin1F_same {H H' : List AO} {r : Res} (hl : H'.length = H.length) (hr : LtR H.length r) (h : ∀ (id : Nat) (o : AO), H'[id]? = some o → H[id]? = some o ∨ LtO H.length o) : fin1F H r H' = some (r, H') := by
  unfold fin1F
  rw [if_pos ⟨hr, fun id o ho _ => h id o ho⟩, ← hl, List.take_length]
theorem fin1F_samej {H H' : List AO} {r : Res} (J : List AO) (hl : H'.length = H.length) (hr : LtR H.length r) (h : ∀ (id : Nat) (o : AO), H'[id]? = some o → H[id]? = some o ∨ LtO H.length o) : fin1F H r (H' ++ J) = some (r, H') := by
  unfold fin1F
  rw [if_pos ⟨hr, fun id o ho hi => h id o (by rwa [List.getElem?_append_left (by omega)] at ho)⟩, List.take_left' hl]
theorem app_three {A Z : List AO} {o1 o1' b o2 o2' : AO} {n : Nat} (h1 : LtO n o1') (h2 : LtO n o2') : ∀ (id : Nat) (o : AO), (A ++ (o1' :: b :: o2' :: Z))[id]? = some o → (A ++ (o1 :: b :: o2 :: Z))[id]? = some o ∨ LtO n o := by
  intro id o ho
  by_cases hi : id < A.length
  · rw [List.getElem?_append_left hi] at ho ⊢; exact .inl ho
  rw [List.getElem?_append_right (by omega)] at ho ⊢
  match id - A.length, ho with
  | 0, ho => simp at ho; subst ho; exact .inr h1
  | 1, ho => simp at ho; subst ho; exact .inl (by simp)
  | 2, ho => simp at ho; subst ho; exact .inr h2
  | j + 3, ho => simp at ho; exact .inl (by simpa using ho)
theorem oncel_ok (b : AO) (xs : List Int) (hx : xs.length ≤ 140737488355328) (A Z : List AO) (ver : Nat) (es : List Int) (hs : es.length + xs.length ≤ 1073741824) :
    F tsub_once [.ol A.length ver, .mp (A.length + 2), .sl (i64s xs)] (A ++ (.lst ver 1 (i64s es) :: b :: .mapo (hadE es) :: Z)) =
      some (.ret (.ol A.length (onceP (ver, es) xs).1), A ++ (.lst (onceP (ver, es) xs).1 1 (i64s (onceP (ver, es) xs).2) :: b :: .mapo (hadE (onceP (ver, es) xs).2) :: Z)) := by
  have hf : ∀ (v v2 : Nat) (es' : List Int), fin1F (A ++ (.lst ver 1 (i64s es) :: b :: .mapo (hadE es) :: Z)) (.ret (.ol A.length v2)) (A ++ (.lst v 1 (i64s es') :: b :: .mapo (hadE es') :: (Z ++ [.lst 0 1 []]))) = some (.ret (.ol A.length v2), A ++ (.lst v 1 (i64s es') :: b :: .mapo (hadE es') :: Z)) := by
    intro v v2 es'
    have := fin1F_samej (H := A ++ (.lst ver 1 (i64s es) :: b :: .mapo (hadE es) :: Z)) (H' := A ++ (.lst v 1 (i64s es') :: b :: .mapo (hadE es') :: Z)) (r := .ret (.ol A.length v2)) [.lst 0 1 []] (by simp) (.ol (by simp)) (app_three (fun a ha => i64s_lt _ _ a ha) (hadE_lt _ _))
    simpa using this
  have hn : ¬ (A.length + (Z.length + 3) ≤ A.length) := by omega
  have loop : ∀ (suf pre : List Int) (p : Nat × List Int), xs = pre ++ suf → p.2.length + suf.length ≤ 1073741824 →
      L_tsub_once_0 (A ++ (.lst ver 1 (i64s es) :: b :: .mapo (hadE es) :: Z)) (A ++ (.lst p.1 1 (i64s p.2) :: b :: .mapo (hadE p.2) :: (Z ++ [.lst 0 1 []]))) (.ol A.length p.1) (.mp (A.length + 2)) (.sl (i64s xs)) (.int .i64 xs.length) (.int .i64 pre.length) =
      some (.ret (.ol A.length (onceP p suf).1), A ++ (.lst (onceP p suf).1 1 (i64s (onceP p suf).2) :: b :: .mapo (hadE (onceP p suf).2) :: Z)) := by
    intro suf
    induction suf with
    | nil =>
      intro pre p e hp
      subst e
      rw [L_tsub_once_0, awL_eq]
      simp only [↓reduceIte, go_sem, onceP, hn, hf]
    | cons n suf ih =>
      rintro pre ⟨v, l⟩ e hp
      subst e
      simp at hp hx
      rw [L_tsub_once_0, awL_eq, onceP]
      by_cases h : l.contains n = true
      · have := ih (pre ++ [n]) (v, l) (by simp) (by simp; omega)
        simp only [len_app] at this
        rw [if_pos h]
        simp only [↓reduceIte, go_sem, h, nat_wrap (n := pre.length) (by omega), this]
      · have := ih (pre ++ [n]) (v + 1, l ++ [n]) (by simp) (by simp; omega)
        simp only [len_app] at this
        rw [if_neg h]
        simp only [Bool.not_eq_true] at h
        simp only [↓reduceIte, go_sem, h, nat_wrap (n := pre.length) (by omega), hadE_snoc, i64s_snoc, show l.length + (0 + 1) ≤ 1073741824 by omega, this]
  have := loop xs [] (ver, es) rfl hs
  simp only [List.length_nil, Int.natCast_zero] at this
  rw [f_tsub_once]
  simp only [↓reduceIte, go_sem, this]

def Te.kind : Te → Int
  | .mk k _ _ _ => k
def Te.n : Te → Int
  | .mk _ n _ _ => n
/-- The numbers of the declarations in terms, from the left on. -/
def consN : List Te → List Int
  | [] => []
  | x :: r => (if x.kind = 3 then [x.n] else []) ++ consN r
theorem consN_app : ∀ a b : List Te, consN (a ++ b) = consN a ++ consN b
  | [], b => rfl
  | x :: a, b => by rw [List.cons_append, consN, consN, consN_app a b, List.append_assoc]
def constD (n : Nat) (p : Nat × List Int) : List AO := [.lst p.1 1 (i64s p.2), .box [.ol n p.1], .mapo (hadE p.2), .box [.mp (n + 2)]]
def constS (p : Nat × List Int) (x : Te) : Option ((Nat × List Int) ⊕ Empty) := if p.2.length < 1073741824 then some (.inl (if x.kind = 3 then onceP p [x.n] else p)) else none
theorem const_ys (H : List AO) : Ys (.yd (H.length + 4 + 1)) (H.length + 4 + 2) encT (fun p => H ++ (constD H.length p ++ [.dfr, .slp .ready 19 [(2, .ptr (H.length + 1) 0), (3, .ptr (H.length + 3) 0)] [8] s_tsub_Consts_0 y_tsub_Consts_0])) (fun e : Empty => H ++ (noE e ++ [.dfr, .slp (.done (noE e)) 19 [(2, .ptr (H.length + 1) 0), (3, .ptr (H.length + 3) 0)] [8] s_tsub_Consts_0 y_tsub_Consts_0])) constS := by
  refine ys_of H 4 encT (constD H.length) noE noE constS 19 [(2, .ptr (H.length + 1) 0), (3, .ptr (H.length + 3) 0)] [8] s_tsub_Consts_0 y_tsub_Consts_0 o_s_tsub_Consts_0 o_y_tsub_Consts_0 (fun _ => rfl) ?_ ?_ ?_ ?_
  · rintro (p | e)
    · rfl
    · exact e.elim
  · rintro s (p | e) i o ho
    · match i, ho with
      | 0, ho => simp [hp_inl, constD] at ho; subst ho; exact .inr fun a ha => i64s_lt _ _ a ha
      | 1, ho => simp [hp_inl, constD] at ho; subst ho; exact .inr fun a ha => by simp at ha; subst ha; exact .ol (by omega)
      | 2, ho => simp [hp_inl, constD] at ho; subst ho; exact .inr (hadE_lt _ _)
      | 3, ho => simp [hp_inl, constD] at ho; subst ho; exact .inl (by simp [constD])
      | j + 4, ho => simp [hp_inl, constD] at ho
    · exact e.elim
  · intro p hp; simp at hp; rcases hp with rfl | rfl <;> exact .ptr (by omega)
  · rintro ⟨ver, es⟩ ⟨k, n, ls, ks⟩ X r hst
    refine ⟨[], ?_⟩
    unfold constS at hst
    split at hst
    · rename_i h2
      dsimp only at h2
      cases hst
      have hc := oncel_ok (.box [.ol H.length ver]) [n] (by simp) H (.box [.mp (H.length + 2)] :: .dfr :: .slp .busy 19 [(2, .ptr (H.length + 1) 0), (3, .ptr (H.length + 3) 0)] [8] s_tsub_Consts_0 y_tsub_Consts_0 :: X) ver es (by simp; omega)
      simp only [i64s, List.map_cons, List.map_nil] at hc
      by_cases h1 : k = 3
      · simp only [↓reduceIte, go_sem, constD, i64s, encT, Te.cs, Te.kind, Te.n, hc, h1, lstO, isL]
      · simp only [↓reduceIte, go_sem, constD, i64s, encT, Te.cs, Te.kind, Te.n, h1, lstO, isL]
    · cases hst
theorem const_fold : ∀ (xs : List Te) (ver : Nat) (es : List Int), es.length + xs.length ≤ 1073741824 → ∃ v, fold constS xs (ver, es) = some (.inl (v, onceL es (consN xs)))
  | [], ver, es, _ => ⟨ver, rfl⟩
  | x :: r, ver, es, h => by
    simp at h
    rw [fold, consN, onceL_app]
    unfold constS
    rw [if_pos (show es.length < 1073741824 by omega)]
    by_cases h1 : x.kind = 3
    · rw [if_pos h1, if_pos h1]
      have := onceP_two [x.n] (ver, es)
      rw [show onceP (ver, es) [x.n] = ((onceP (ver, es) [x.n]).1, onceL es [x.n]) from Prod.ext rfl this]
      have hl := onceL_len [x.n] es
      simp at hl
      exact const_fold r _ _ (by omega)
    · rw [if_neg h1, if_neg h1]; exact const_fold r ver es (by omega)
def constL (t : Te) : List Int := onceL [] (consN (subs t))
theorem Consts_ok (t : Te) (ht : t.ok) (hx : (subs t).length ≤ 1073741824) (H : List AO) : F tsub_Consts [.agg t.cs] H = some (.ret (.sl (i64s (constL t))), H) := by
  obtain ⟨v, hv⟩ := const_fold (subs t) 0 [] (by simpa using hx)
  have hr := all_seq t ht _ _ _ _ _ _ _ (const_ys H) (0, []) [] _ hv
  have he := rf_end (H := H) (DR := constD H.length (v, constL t)) (k := 4) rfl (st := .ready) (nn := 19) (t := [(2, .ptr (H.length + 1) 0), (3, .ptr (H.length + 3) 0)]) (ps := [8]) (asg := s_tsub_Consts_0) (body := y_tsub_Consts_0)
  have ha := allV_ok t
  cases t with
  | mk k n ls ks =>
  unfold constL at he ⊢
  simp only [allV, Te.cs] at ha hr
  simp only [hp_inl, constD, cfl_f1, List.cons_append, List.nil_append, List.append_nil, Nat.add_assoc, Nat.reduceAdd, i64s_nil, hadE_nil] at hr he
  rw [f_tsub_Consts]
  simp only [↓reduceIte, go_sem, Te.cs, ha, hr, he, List.mem_cons, List.not_mem_nil, or_false, forall_eq, List.nodup_cons, List.nodup_nil, not_false_eq_true, and_self]


theorem onceL_mem : ∀ (xs out : List Int) (n : Int), out.contains n = true → (onceL out xs).contains n = true
  | [], out, n, h => h
  | x :: r, out, n, h => by
    rw [onceL]
    refine onceL_mem r _ n ?_
    split
    · exact h
    · simp at h ⊢; exact .inl h
theorem onceL_once : ∀ (xs acc out : List Int), onceL out (onceL acc xs) = onceL (onceL out acc) xs
  | [], acc, out => rfl
  | n :: r, acc, out => by
    rw [onceL, onceL_once r, onceL]
    by_cases h : acc.contains n = true
    · rw [if_pos h]
      have : (onceL out acc).contains n = true := by
        clear onceL_once
        induction acc generalizing out with
        | nil => simp at h
        | cons a acc ih =>
          rw [onceL]
          by_cases ha : n = a
          · subst ha
            refine onceL_mem _ _ _ ?_
            split
            · assumption
            · simp
          · have : acc.contains n = true := by simpa [ha] using h
            exact ih _ this
      rw [if_pos this]
    · rw [if_neg h, onceL_app, onceL, onceL]
def consTs : List Te → List Int
  | [] => []
  | x :: r => consN (subs x) ++ consTs r
theorem consN_subss : ∀ ks : List Te, consN (subss ks) = consTs ks
  | [] => rfl
  | x :: r => by rw [subss, consN_app, consN_subss r]; rfl
theorem consN_len : ∀ xs : List Te, (consN xs).length ≤ xs.length
  | [] => Nat.le_refl _
  | x :: r => by
    have := consN_len r
    rw [consN]; split <;> simp <;> omega
end Go.Ab
