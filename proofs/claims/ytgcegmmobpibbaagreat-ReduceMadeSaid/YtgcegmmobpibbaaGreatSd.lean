/- The numbers of the declarations in a term: the program's functions. Conditions: none. -/
import Derived.Test.YtgcegmmobpibbaaGreatSc
set_option linter.unusedVariables false
set_option linter.unusedSimpArgs false
set_option maxRecDepth 100000
set_option maxHeartbeats 2000000
namespace Go.Ab
open Go.RowKit Go.Proofs

def hadE (L : List Int) : List (AV × AV) := L.map fun n => (.int .i64 n, .agg [])
@[go_sem] theorem hadE_keys : ∀ L : List Int, keysI .i64 (hadE L) = true
  | [] => rfl
  | n :: r => by show keysI .i64 ((.int .i64 n, .agg []) :: hadE r) = true; simp only [keysI, if_pos, hadE_keys r]
@[go_sem] theorem hadE_find (n : Int) : ∀ L : List Int, findI n (hadE L) = some (if L.contains n then some (.agg []) else none)
  | [] => rfl
  | m :: r => by
    show findI n ((.int .i64 m, .agg []) :: hadE r) = _
    rw [findI, hadE_find n r]
    by_cases h : n = m
    · subst h; simp
    · simp [h]
@[go_sem] theorem hadE_nil : hadE [] = [] := rfl
theorem hadE_snoc (L : List Int) (n : Int) : hadE L ++ [(.int .i64 n, .agg [])] = hadE (L ++ [n]) := by simp [hadE]
theorem hadE_lt (n : Nat) (L : List Int) : LtO n (.mapo (hadE L)) := by
  constructor
  · intro p hp; obtain ⟨x, _, rfl⟩ := List.mem_map.1 hp; exact .int _ _
  · intro p hp; obtain ⟨x, _, rfl⟩ := List.mem_map.1 hp; exact .agg (by simp)
/-- A list, and how often it was written: with numbers put behind, each once. -/
def onceP : Nat × List Int → List Int → Nat × List Int
  | p, [] => p
  | p, n :: r => onceP (if p.2.contains n then p else (p.1 + 1, p.2 ++ [n])) r
theorem onceP_two : ∀ (xs : List Int) (p : Nat × List Int), (onceP p xs).2 = onceL p.2 xs
  | [], p => rfl
  | n :: r, p => by
    rw [onceP, onceL, onceP_two r]
    by_cases h : p.2.contains n = true
    · rw [if_pos h, if_pos h]
    · rw [if_neg h, if_neg h]
theorem fin1F_same {H H' : List AO} {r : Res} (hl : H'.length = H.length) (hr : LtR H.length r) (h : ∀ (id : Nat) (o : AO), H'[id]? = some o → H[id]? = some o ∨ LtO H.length o) : fin1F H r H' = some (r, H') := by
  unfold fin1F
  rw [if_pos ⟨hr, fun id o ho _ => h id o ho⟩, ← hl, List.take_length]
theorem fin1F_samej {H H' : List AO} {r : Res} (J : List AO) (hl : H'.length = H.length) (hr : LtR H.length r) (h : ∀ (id : Nat) (o : AO), H'[id]? = some o → H[id]? = some o ∨ LtO H.length o) : fin1F H r (H' ++ J) = some (r, H') := by
  unfold fin1F
  rw [if_pos ⟨hr, fun id o ho hi => h id o (by rwa [List.getElem?_append_left (by omega)] at ho)⟩, List.take_left' hl]
theorem app_three {A Z : List AO} {o1 o1' b o2 o2' : AO} {n : Nat} (h1 : LtO n o1') (h2 : LtO n o2') : ∀ (id : Nat) (o : AO), (A ++ (o1' :: b :: o2' :: Z))[id]? = some o → (A ++ (o1 :: b :: o2 :: Z))[id]? = some o ∨ LtO n o := by
  intro id o ho
  by_cases hi : id < A.length
  · rw [List.getElem?_append_left hi] at ho ⊢; exact .inl ho
  rw [List.getElem?_append_right (by omega)] at ho ⊢
  match id - A.length, ho with
  | 0, ho => simp at ho; subst ho; exact .inr h1
  | 1, ho => simp at ho; subst ho; exact .inl (by simp)
  | 2, ho => simp at ho; subst ho; exact .inr h2
  | j + 3, ho => simp at ho; exact .inl (by simpa using ho)
theorem oncel_ok (b : AO) (xs : List Int) (hx : xs.length ≤ 140737488355328) (A Z : List AO) (ver : Nat) (es : List Int) (hs : es.length + xs.length ≤ 1073741824) :
    F tsub_once [.ol A.length ver, .mp (A.length + 2), .sl (i64s xs)] (A ++ (.lst ver 1 (i64s es) :: b :: .mapo (hadE es) :: Z)) =
      some (.ret (.ol A.length (onceP (ver, es) xs).1), A ++ (.lst (onceP (ver, es) xs).1 1 (i64s (onceP (ver, es) xs).2) :: b :: .mapo (hadE (onceP (ver, es) xs).2) :: Z)) := by
  have hf : ∀ (v v2 : Nat) (es' : List Int), fin1F (A ++ (.lst ver 1 (i64s es) :: b :: .mapo (hadE es) :: Z)) (.ret (.ol A.length v2)) (A ++ (.lst v 1 (i64s es') :: b :: .mapo (hadE es') :: (Z ++ [.lst 0 1 []]))) = some (.ret (.ol A.length v2), A ++ (.lst v 1 (i64s es') :: b :: .mapo (hadE es') :: Z)) := by
    intro v v2 es'
    have := fin1F_samej (H := A ++ (.lst ver 1 (i64s es) :: b :: .mapo (hadE es) :: Z)) (H' := A ++ (.lst v 1 (i64s es') :: b :: .mapo (hadE es') :: Z)) (r := .ret (.ol A.length v2)) [.lst 0 1 []] (by simp) (.ol (by simp)) (app_three (fun a ha => i64s_lt _ _ a ha) (hadE_lt _ _))
    simpa using this
  have hn : ¬ (A.length + (Z.length + 3) ≤ A.length) := by omega
  have loop : ∀ (suf pre : List Int) (p : Nat × List Int), xs = pre ++ suf → p.2.length + suf.length ≤ 1073741824 →
      L_tsub_once_0 (A ++ (.lst ver 1 (i64s es) :: b :: .mapo (hadE es) :: Z)) (A ++ (.lst p.1 1 (i64s p.2) :: b :: .mapo (hadE p.2) :: (Z ++ [.lst 0 1 []]))) (.ol A.length p.1) (.mp (A.length + 2)) (.sl (i64s xs)) (.int .i64 xs.length) (.int .i64 pre.length) =
      some (.ret (.ol A.length (onceP p suf).1), A ++ (.lst (onceP p suf).1 1 (i64s (onceP p suf).2) :: b :: .mapo (hadE (onceP p suf).2) :: Z)) := by
    intro suf
    induction suf with
    | nil =>
      intro pre p e hp
      subst e
      rw [L_tsub_once_0, awL_eq]
      simp only [↓reduceIte, go_sem, onceP, hn, hf]
    | cons n suf ih =>
      rintro pre ⟨v, l⟩ e hp
      subst e
      simp at hp hx
      rw [L_tsub_once_0, awL_eq, onceP]
      by_cases h : l.contains n = true
      · have := ih (pre ++ [n]) (v, l) (by simp) (by simp; omega)
        simp only [len_app] at this
        rw [if_pos h]
        simp only [↓reduceIte, go_sem, h, nat_wrap (n := pre.length) (by omega), this]
      · have := ih (pre ++ [n]) (v + 1, l ++ [n]) (by simp) (by simp; omega)
        simp only [len_app] at this
        rw [if_neg h]
        simp only [Bool.not_eq_true] at h
        simp only [↓reduceIte, go_sem, h, nat_wrap (n := pre.length) (by omega), hadE_snoc, i64s_snoc, show l.length + (0 + 1) ≤ 1073741824 by omega, this]
  have := loop xs [] (ver, es) rfl hs
  simp only [List.length_nil, Int.natCast_zero] at this
  rw [f_tsub_once]
  simp only [↓reduceIte, go_sem, this]

def Te.kind : Te → Int
  | .mk k _ _ _ => k
def Te.n : Te → Int
  | .mk _ n _ _ => n
/-- The numbers of the declarations in terms, from the left on. -/
def consN : List Te → List Int
  | [] => []
  | x :: r => (if x.kind = 3 then [x.n] else []) ++ consN r
theorem consN_app : ∀ a b : List Te, consN (a ++ b) = consN a ++ consN b
  | [], b => rfl
  | x :: a, b => by rw [List.cons_append, consN, consN, consN_app a b, List.append_assoc]
def constD (n : Nat) (p : Nat × List Int) : List AO := [.lst p.1 1 (i64s p.2), .box [.ol n p.1], .mapo (hadE p.2), .box [.mp (n + 2)]]
def constS (p : Nat × List Int) (x : Te) : Option ((Nat × List Int) ⊕ Empty) := if p.2.length < 1073741824 then some (.inl (if x.kind = 3 then onceP p [x.n] else p)) else none
theorem const_ys (H : List AO) : Ys (.yd (H.length + 4 + 1)) (H.length + 4 + 2) encT (fun p => H ++ (constD H.length p ++ [.dfr, .slp .ready 19 [(2, .ptr (H.length + 1) 0), (3, .ptr (H.length + 3) 0)] [8] s_tsub_Consts_0 y_tsub_Consts_0])) (fun e : Empty => H ++ (noE e ++ [.dfr, .slp (.done (noE e)) 19 [(2, .ptr (H.length + 1) 0), (3, .ptr (H.length + 3) 0)] [8] s_tsub_Consts_0 y_tsub_Consts_0])) constS := by
  refine ys_of H 4 encT (constD H.length) noE noE constS 19 [(2, .ptr (H.length + 1) 0), (3, .ptr (H.length + 3) 0)] [8] s_tsub_Consts_0 y_tsub_Consts_0 o_s_tsub_Consts_0 o_y_tsub_Consts_0 (fun _ => rfl) ?_ ?_ ?_ ?_
  · rintro (p | e)
    · rfl
    · exact e.elim
  · rintro s (p | e) i o ho
    · match i, ho with
      | 0, ho => simp [hp_inl, constD] at ho; subst ho; exact .inr fun a ha => i64s_lt _ _ a ha
      | 1, ho => simp [hp_inl, constD] at ho; subst ho; exact .inr fun a ha => by simp at ha; subst ha; exact .ol (by omega)
      | 2, ho => simp [hp_inl, constD] at ho; subst ho; exact .inr (hadE_lt _ _)
      | 3, ho => simp [hp_inl, constD] at ho; subst ho; exact .inl (by simp [constD])
      | j + 4, ho => simp [hp_inl, constD] at ho
    · exact e.elim
  · intro p hp; simp at hp; rcases hp with rfl | rfl <;> exact .ptr (by omega)
  · rintro ⟨ver, es⟩ ⟨k, n, ls, ks⟩ X r hst
    refine ⟨[], ?_⟩
    unfold constS at hst
    split at hst
    · rename_i h2
      dsimp only at h2
      cases hst
      have hc := oncel_ok (.box [.ol H.length ver]) [n] (by simp) H (.box [.mp (H.length + 2)] :: .dfr :: .slp .busy 19 [(2, .ptr (H.length + 1) 0), (3, .ptr (H.length + 3) 0)] [8] s_tsub_Consts_0 y_tsub_Consts_0 :: X) ver es (by simp; omega)
      simp only [i64s, List.map_cons, List.map_nil] at hc
      by_cases h1 : k = 3
      · simp only [↓reduceIte, go_sem, constD, i64s, encT, Te.cs, Te.kind, Te.n, hc, h1, lstO, isL]
      · simp only [↓reduceIte, go_sem, constD, i64s, encT, Te.cs, Te.kind, Te.n, h1, lstO, isL]
    · cases hst
theorem const_fold : ∀ (xs : List Te) (ver : Nat) (es : List Int), es.length + xs.length ≤ 1073741824 → ∃ v, fold constS xs (ver, es) = some (.inl (v, onceL es (consN xs)))
  | [], ver, es, _ => ⟨ver, rfl⟩
  | x :: r, ver, es, h => by
    simp at h
    rw [fold, consN, onceL_app]
    unfold constS
    rw [if_pos (show es.length < 1073741824 by omega)]
    by_cases h1 : x.kind = 3
    · rw [if_pos h1, if_pos h1]
      have := onceP_two [x.n] (ver, es)
      rw [show onceP (ver, es) [x.n] = ((onceP (ver, es) [x.n]).1, onceL es [x.n]) from Prod.ext rfl this]
      have hl := onceL_len [x.n] es
      simp at hl
      exact const_fold r _ _ (by omega)
    · rw [if_neg h1, if_neg h1]; exact const_fold r ver es (by omega)
def constL (t : Te) : List Int := onceL [] (consN (subs t))
theorem Consts_ok (t : Te) (ht : t.ok) (hx : (subs t).length ≤ 1073741824) (H : List AO) : F tsub_Consts [.agg t.cs] H = some (.ret (.sl (i64s (constL t))), H) := by
  obtain ⟨v, hv⟩ := const_fold (subs t) 0 [] (by simpa using hx)
  have hr := all_seq t ht _ _ _ _ _ _ _ (const_ys H) (0, []) [] _ hv
  have he := rf_end (H := H) (DR := constD H.length (v, constL t)) (k := 4) rfl (st := .ready) (nn := 19) (t := [(2, .ptr (H.length + 1) 0), (3, .ptr (H.length + 3) 0)]) (ps := [8]) (asg := s_tsub_Consts_0) (body := y_tsub_Consts_0)
  have ha := allV_ok t
  cases t with
  | mk k n ls ks =>
  unfold constL at he ⊢
  simp only [allV, Te.cs] at ha hr
  simp only [hp_inl, constD, cfl_f1, List.cons_append, List.nil_append, List.append_nil, Nat.add_assoc, Nat.reduceAdd, i64s_nil, hadE_nil] at hr he
  rw [f_tsub_Consts]
  simp only [↓reduceIte, go_sem, Te.cs, ha, hr, he, List.mem_cons, List.not_mem_nil, or_false, forall_eq, List.nodup_cons, List.nodup_nil, not_false_eq_true, and_self]
end Go.Ab
