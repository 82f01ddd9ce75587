/- What a term comes to: the program's machine and its steps. Conditions: none. -/
import Derived.Test.YtgcegmmobpibbaaGreatUb
set_option linter.unusedVariables false
set_option linter.unusedSimpArgs false
set_option maxRecDepth 100000
set_option maxHeartbeats 2000000
namespace Go.Ab
open Go.RowKit Go.Proofs

theorem FailP_ok (env : List De) (n e : Int) (A X : List AO) : F reduce_Machine_Fail [.ptr A.length 0, .int .i64 e] (A ++ (.box [.sl (De.css env), .int .i64 n, .int .i64 0] :: X)) =
    some (.ret (.bool false), A ++ (.box [.sl (De.css env), .int .i64 n, .int .i64 e] :: X)) := by
  have hf0 := fun (o o' : AO) r (ho : LtO (A.length + (X.length + 1)) o') => fin1F_mid0 (A := A) (X := X) (o := o) (o' := o') (r := r) ho
  rw [f_reduce_Machine_Fail]
  simp only [↓reduceIte, go_sem, hf0, mB_lt]
theorem BurnP_ok (env : List De) (n : Int) (hn : 0 ≤ n ∧ n ≤ 1000000) (A X : List AO) : F reduce_Machine_Burn [.ptr A.length 0] (A ++ (.box [.sl (De.css env), .int .i64 n, .int .i64 0] :: X)) =
    if n = 0 then some (.ret (.bool false), A ++ (.box [.sl (De.css env), .int .i64 0, .int .i64 40] :: X)) else some (.ret (.bool true), A ++ (.box [.sl (De.css env), .int .i64 (n - 1), .int .i64 0] :: X)) := by
  have hf0 := fun (o o' : AO) r (ho : LtO (A.length + (X.length + 1)) o') => fin1F_mid0 (A := A) (X := X) (o := o) (o' := o') (r := r) ho
  rw [f_reduce_Machine_Burn]
  by_cases h : n = 0
  · subst h
    simp only [↓reduceIte, go_sem, hf0, mB_lt, FailP_ok]
  · simp only [↓reduceIte, go_sem, hf0, mB_lt, h, wrap64 (n := n - 1) (by omega) (by omega)]
theorem PutP_ok (env : List De) (t : Te) (n e : Int) (A X : List AO) : F reduce_Machine_Put [.ptr A.length 0, .agg t.cs, .int .i64 e] (A ++ (.box [.sl (De.css env), .int .i64 n, .int .i64 0] :: X)) =
    some (.ret (.agg t.cs), A ++ (.box [.sl (De.css env), .int .i64 n, .int .i64 e] :: X)) := by
  have hf0 := fun (o o' : AO) r (ho : LtO (A.length + (X.length + 1)) o') => fin1F_mid0 (A := A) (X := X) (o := o) (o' := o') (r := r) ho
  rw [f_reduce_Machine_Put]
  by_cases h : e = 0
  · subst h
    simp only [↓reduceIte, go_sem, hf0, mB_lt]
  · simp only [↓reduceIte, go_sem, hf0, mB_lt, h, FailP_ok]
theorem app_spine {A Y Z : List AO} {o1 o1' o2 o2' o3 o3' : AO} {n : Nat} (h1 : LtO n o1') (h2 : LtO n o2') (h3 : LtO n o3') : ∀ (id : Nat) (o : AO), (A ++ (o1' :: (Y ++ (o2' :: o3' :: Z))))[id]? = some o → (A ++ (o1 :: (Y ++ (o2 :: o3 :: Z))))[id]? = some o ∨ LtO n o := by
  intro id o ho
  by_cases hi : id < A.length
  · rw [List.getElem?_append_left hi] at ho ⊢; exact .inl ho
  rw [List.getElem?_append_right (by omega)] at ho ⊢
  cases hj : id - A.length with
  | zero => rw [hj] at ho; simp at ho; subst ho; exact .inr h1
  | succ j =>
    rw [hj] at ho
    simp only [List.getElem?_cons_succ] at ho ⊢
    by_cases hy : j < Y.length
    · rw [List.getElem?_append_left hy] at ho ⊢; exact .inl ho
    rw [List.getElem?_append_right (by omega)] at ho ⊢
    match j - Y.length, ho with
    | 0, ho => simp at ho; subst ho; exact .inr h2
    | 1, ho => simp at ho; subst ho; exact .inr h3
    | i + 2, ho => simp at ho; exact .inl (by simpa using ho)
theorem spFin {A Y Z : List AO} {env : List De} {n e n' e' : Int} {ver ver' : Nat} {es es' : List Te} {k N k' N' : Int} {ls ls' : List Lv} {ks ks' : List Te} {b : Bool} :
    fin1F (A ++ (.box [.sl (De.css env), .int .i64 n, .int .i64 e] :: (Y ++ (.lst ver 4 (Te.css es) :: .box [.ptr A.length 0, .int .i64 k, .int .i64 N, .sl (Lv.css ls), .sl (Te.css ks), .ol (A.length + (Y.length + 1)) ver] :: Z)))) (.ret (.bool b))
      (A ++ (.box [.sl (De.css env), .int .i64 n', .int .i64 e'] :: (Y ++ (.lst ver' 4 (Te.css es') :: .box [.ptr A.length 0, .int .i64 k', .int .i64 N', .sl (Lv.css ls'), .sl (Te.css ks'), .ol (A.length + (Y.length + 1)) ver'] :: Z)))) =
    some (.ret (.bool b), A ++ (.box [.sl (De.css env), .int .i64 n', .int .i64 e'] :: (Y ++ (.lst ver' 4 (Te.css es') :: .box [.ptr A.length 0, .int .i64 k', .int .i64 N', .sl (Lv.css ls'), .sl (Te.css ks'), .ol (A.length + (Y.length + 1)) ver'] :: Z)))) := by
  refine fin1F_same (by simp) (.bool _) (app_spine (mB_lt _ _ _ _) (fun a ha => of_eq_true (lt_tcss _ es') a ha) ?_)
  intro a ha
  simp at ha
  rcases ha with rfl | rfl | rfl | rfl | rfl | rfl
  · exact .ptr (by simp)
  · exact .int _ _
  · exact .int _ _
  · exact .sl fun a ha => of_eq_true (lt_css _ ls') a ha
  · exact .sl fun a ha => of_eq_true (lt_tcss _ ks') a ha
  · exact .ol (by simp)
theorem let_ok (env : List De) (n : Nat) (hn : n + 1 ≤ 1000000) (A Y Z : List AO) (ver : Nat) (es : List Te) (N : Int) (ls : List Lv) (s v b k2 : Te) (hb : b.ok) (hv : v.ok) (r : Te) (e : Int) (ho : OpenS b v = (r, e)) :
    F reduce_spine_let [.ptr (A.length + (Y.length + 2)) 0] (A ++ (.box [.sl (De.css env), .int .i64 (n + 1 : Nat), .int .i64 0] :: (Y ++ (.lst ver 4 (Te.css es) :: .box [.ptr A.length 0, .int .i64 7, .int .i64 N, .sl (Lv.css ls), .sl (Te.css [s, v, b]), .ol (A.length + (Y.length + 1)) ver] :: Z)))) =
    some (.ret (.bool true), A ++ (.box [.sl (De.css env), .int .i64 n, .int .i64 e] :: (Y ++ (.lst ver 4 (Te.css es) :: .box (.ptr A.length 0 :: (r.cs ++ [.ol (A.length + (Y.length + 1)) ver])) :: Z)))) := by
  have hO := fun H => OpenP_ok b v hb hv H
  simp only [ho, resT] at hO
  have hB : ∀ X, F reduce_Machine_Burn [.ptr A.length 0] (A ++ (.box [.sl (De.css env), .int .i64 (n + 1 : Nat), .int .i64 0] :: X)) = some (.ret (.bool true), A ++ (.box [.sl (De.css env), .int .i64 n, .int .i64 0] :: X)) := by
    intro X
    have hB := BurnP_ok env ((n + 1 : Nat) : Int) (by omega) A X
    rwa [if_neg (by omega), show (((n + 1 : Nat) : Int) - 1) = n by omega] at hB
  cases r with
  | mk k' n' ls' ks' =>
  have hP := fun e X => PutP_ok env (.mk k' n' ls' ks') n e A X
  simp only [Te.cs] at hP hO
  rw [f_reduce_spine_let]
  simp only [↓reduceIte, go_sem, Te.cs, hB, hO, hP, spFin]
theorem let0_ok (env : List De) (A Y Z : List AO) (ver : Nat) (es : List Te) (N : Int) (ls : List Lv) (ks : List Te) :
    F reduce_spine_let [.ptr (A.length + (Y.length + 2)) 0] (A ++ (.box [.sl (De.css env), .int .i64 0, .int .i64 0] :: (Y ++ (.lst ver 4 (Te.css es) :: .box [.ptr A.length 0, .int .i64 7, .int .i64 N, .sl (Lv.css ls), .sl (Te.css ks), .ol (A.length + (Y.length + 1)) ver] :: Z)))) =
    some (.ret (.bool true), A ++ (.box [.sl (De.css env), .int .i64 0, .int .i64 40] :: (Y ++ (.lst ver 4 (Te.css es) :: .box [.ptr A.length 0, .int .i64 7, .int .i64 N, .sl (Lv.css ls), .sl (Te.css ks), .ol (A.length + (Y.length + 1)) ver] :: Z)))) := by
  have hB : ∀ X, F reduce_Machine_Burn [.ptr A.length 0] (A ++ (.box [.sl (De.css env), .int .i64 0, .int .i64 0] :: X)) = some (.ret (.bool false), A ++ (.box [.sl (De.css env), .int .i64 0, .int .i64 40] :: X)) := by
    intro X
    have hB := BurnP_ok env 0 (by omega) A X
    rwa [if_pos rfl] at hB
  rw [f_reduce_spine_let]
  simp only [↓reduceIte, go_sem, hB, spFin]
theorem unfD_none {env : List De} {j : Nat} {ls : List Lv} (h : unfD env (j : Int) ls = none) : (env.length ≤ j) ∨ ∃ d, env[j]? = some d ∧ j < env.length ∧ (d.has = false ∨ d.has = true ∧ ¬ (ls.length : Int) = d.p) := by
  unfold unfD at h
  simp only [Int.toNat_natCast] at h
  cases hg : env[j]? with
  | none => exact .inl (List.getElem?_eq_none_iff.1 hg)
  | some d =>
    have hl : j < env.length := by
      rcases Nat.lt_or_ge j env.length with h | h
      · exact h
      · rw [List.getElem?_eq_none h] at hg; cases hg
    rw [hg] at h
    dsimp only at h
    refine .inr ⟨d, rfl, hl, ?_⟩
    split at h
    · cases h
    · rename_i hn
      cases hh : d.has
      · exact .inl rfl
      · exact .inr ⟨rfl, fun hp => hn ⟨hh, hp⟩⟩
theorem constN_ok (env : List De) (n e : Int) (A Y Z : List AO) (ver : Nat) (es : List Te) (N : Int) (hN : 0 ≤ N) (ls : List Lv) (ks : List Te) (hu : unfD env N ls = none) :
    F reduce_spine_constant [.ptr (A.length + (Y.length + 2)) 0] (A ++ (.box [.sl (De.css env), .int .i64 n, .int .i64 e] :: (Y ++ (.lst ver 4 (Te.css es) :: .box [.ptr A.length 0, .int .i64 3, .int .i64 N, .sl (Lv.css ls), .sl (Te.css ks), .ol (A.length + (Y.length + 1)) ver] :: Z)))) =
    some (.ret (.bool false), A ++ (.box [.sl (De.css env), .int .i64 n, .int .i64 e] :: (Y ++ (.lst ver 4 (Te.css es) :: .box [.ptr A.length 0, .int .i64 3, .int .i64 N, .sl (Lv.css ls), .sl (Te.css ks), .ol (A.length + (Y.length + 1)) ver] :: Z)))) := by
  obtain ⟨j, rfl⟩ := Int.eq_ofNat_of_zero_le hN
  rw [f_reduce_spine_constant]
  rcases unfD_none hu with h | ⟨d, hg, hl, hh | ⟨hh, hp⟩⟩
  · simp only [↓reduceIte, go_sem, show (env.length : Int) ≤ (j : Int) by omega, spFin]
  · simp only [↓reduceIte, go_sem, show ¬ (env.length : Int) ≤ (j : Int) by omega, hg, hh, spFin]
  · simp only [↓reduceIte, go_sem, show ¬ (env.length : Int) ≤ (j : Int) by omega, hg, hh, hp, spFin]
theorem constP_ok (env : List De) (hE : okDs env) (n : Nat) (hn : n + 1 ≤ 1000000) (A Y Z : List AO) (ver : Nat) (es : List Te) (N : Int) (hN : 0 ≤ N) (ls : List Lv) (hls : okLs ls) (hll : ls.length ≤ 140737488355328) (ks : List Te) (d : De) (hu : unfD env N ls = some d) (r : Te) (e : Int) (hs : TSubS d.value ls [] = (r, e)) :
    F reduce_spine_constant [.ptr (A.length + (Y.length + 2)) 0] (A ++ (.box [.sl (De.css env), .int .i64 (n + 1 : Nat), .int .i64 0] :: (Y ++ (.lst ver 4 (Te.css es) :: .box [.ptr A.length 0, .int .i64 3, .int .i64 N, .sl (Lv.css ls), .sl (Te.css ks), .ol (A.length + (Y.length + 1)) ver] :: Z)))) =
    some (.ret (.bool true), A ++ (.box [.sl (De.css env), .int .i64 n, .int .i64 e] :: (Y ++ (.lst ver 4 (Te.css es) :: .box (.ptr A.length 0 :: (r.cs ++ [.ol (A.length + (Y.length + 1)) ver])) :: Z)))) := by
  have hm := unfD_mem hu
  obtain ⟨j, rfl⟩ := Int.eq_ofNat_of_zero_le hN
  simp only [Int.toNat_natCast] at hm
  have hS := fun H => TSub_ok d.value ls [] (hE.2 d (List.mem_of_getElem? hm.1)).2.2.2 hls okLs_nil hll (by simp) H
  simp only [hs, resT, Lv.css] at hS
  have hl : (j : Int) < (env.length : Int) := by
    have := (List.getElem?_eq_some_iff.1 hm.1).1
    omega
  have hB : ∀ X, F reduce_Machine_Burn [.ptr A.length 0] (A ++ (.box [.sl (De.css env), .int .i64 (n + 1 : Nat), .int .i64 0] :: X)) = some (.ret (.bool true), A ++ (.box [.sl (De.css env), .int .i64 n, .int .i64 0] :: X)) := by
    intro X
    have hB := BurnP_ok env ((n + 1 : Nat) : Int) (by omega) A X
    rwa [if_neg (by omega), show (((n + 1 : Nat) : Int) - 1) = n by omega] at hB
  cases r with
  | mk k' n' ls' ks' =>
  have hP := fun e X => PutP_ok env (.mk k' n' ls' ks') n e A X
  simp only [Te.cs] at hP hS
  rw [f_reduce_spine_constant]
  simp only [↓reduceIte, go_sem, Te.cs, show ¬ (env.length : Int) ≤ (j : Int) by omega, hl, hm.1, hm.2.1, hm.2.2, hB, hS, hP, spFin]
theorem const0_ok (env : List De) (A Y Z : List AO) (ver : Nat) (es : List Te) (N : Int) (hN : 0 ≤ N) (ls : List Lv) (ks : List Te) (d : De) (hu : unfD env N ls = some d) :
    F reduce_spine_constant [.ptr (A.length + (Y.length + 2)) 0] (A ++ (.box [.sl (De.css env), .int .i64 0, .int .i64 0] :: (Y ++ (.lst ver 4 (Te.css es) :: .box [.ptr A.length 0, .int .i64 3, .int .i64 N, .sl (Lv.css ls), .sl (Te.css ks), .ol (A.length + (Y.length + 1)) ver] :: Z)))) =
    some (.ret (.bool true), A ++ (.box [.sl (De.css env), .int .i64 0, .int .i64 40] :: (Y ++ (.lst ver 4 (Te.css es) :: .box [.ptr A.length 0, .int .i64 3, .int .i64 N, .sl (Lv.css ls), .sl (Te.css ks), .ol (A.length + (Y.length + 1)) ver] :: Z)))) := by
  have hm := unfD_mem hu
  obtain ⟨j, rfl⟩ := Int.eq_ofNat_of_zero_le hN
  simp only [Int.toNat_natCast] at hm
  have hl : (j : Int) < (env.length : Int) := by
    have := (List.getElem?_eq_some_iff.1 hm.1).1
    omega
  have hB : ∀ X, F reduce_Machine_Burn [.ptr A.length 0] (A ++ (.box [.sl (De.css env), .int .i64 0, .int .i64 0] :: X)) = some (.ret (.bool false), A ++ (.box [.sl (De.css env), .int .i64 0, .int .i64 40] :: X)) := by
    intro X
    have hB := BurnP_ok env 0 (by omega) A X
    rwa [if_pos rfl] at hB
  rw [f_reduce_spine_constant]
  simp only [↓reduceIte, go_sem, show ¬ (env.length : Int) ≤ (j : Int) by omega, hl, hm.1, hm.2.1, hm.2.2, hB, spFin]
theorem lamN_ok (env : List De) (n e : Int) (A Y Z : List AO) (ver : Nat) (k N : Int) (ls : List Lv) (ks : List Te) :
    F reduce_spine_lambda [.ptr (A.length + (Y.length + 2)) 0] (A ++ (.box [.sl (De.css env), .int .i64 n, .int .i64 e] :: (Y ++ (.lst ver 4 (Te.css []) :: .box [.ptr A.length 0, .int .i64 k, .int .i64 N, .sl (Lv.css ls), .sl (Te.css ks), .ol (A.length + (Y.length + 1)) ver] :: Z)))) =
    some (.ret (.bool false), A ++ (.box [.sl (De.css env), .int .i64 n, .int .i64 e] :: (Y ++ (.lst ver 4 (Te.css []) :: .box [.ptr A.length 0, .int .i64 k, .int .i64 N, .sl (Lv.css ls), .sl (Te.css ks), .ol (A.length + (Y.length + 1)) ver] :: Z)))) := by
  rw [f_reduce_spine_lambda]
  simp only [↓reduceIte, go_sem, List.length_nil, Int.natCast_zero, show IntKind.i64.wrap (-1) = -1 from by decide, show ((-1 : Int) < 0) from by decide, spFin]
theorem lam_ok (env : List De) (n : Nat) (hn : n + 1 ≤ 1000000) (A Y Z : List AO) (ver : Nat) (es : List Te) (hes : es.length ≤ 1073741824) (a : Te) (ha : a.ok) (k N : Int) (ls : List Lv) (s b : Te) (hb : b.ok) (r : Te) (e : Int) (ho : OpenS b a = (r, e)) :
    F reduce_spine_lambda [.ptr (A.length + (Y.length + 2)) 0] (A ++ (.box [.sl (De.css env), .int .i64 (n + 1 : Nat), .int .i64 0] :: (Y ++ (.lst ver 4 (Te.css (es ++ [a])) :: .box [.ptr A.length 0, .int .i64 k, .int .i64 N, .sl (Lv.css ls), .sl (Te.css [s, b]), .ol (A.length + (Y.length + 1)) ver] :: Z)))) =
    some (.ret (.bool true), A ++ (.box [.sl (De.css env), .int .i64 n, .int .i64 e] :: (Y ++ (.lst (ver + 1) 4 (Te.css es) :: .box (.ptr A.length 0 :: (r.cs ++ [.ol (A.length + (Y.length + 1)) (ver + 1)])) :: Z)))) := by
  have hO := fun H => OpenP_ok b a hb ha H
  simp only [ho, resT] at hO
  have hB : ∀ X, F reduce_Machine_Burn [.ptr A.length 0] (A ++ (.box [.sl (De.css env), .int .i64 (n + 1 : Nat), .int .i64 0] :: X)) = some (.ret (.bool true), A ++ (.box [.sl (De.css env), .int .i64 n, .int .i64 0] :: X)) := by
    intro X
    have hB := BurnP_ok env ((n + 1 : Nat) : Int) (by omega) A X
    rwa [if_neg (by omega), show (((n + 1 : Nat) : Int) - 1) = n by omega] at hB
  simp only [Int.natCast_add, Int.natCast_one] at hB
  have htk : (Te.css (es ++ [a])).take es.length = Te.css es := by simp [Te.css_eq]
  cases r with
  | mk k' n' ls' ks' =>
  have hP := fun e X => PutP_ok env (.mk k' n' ls' ks') n e A X
  simp only [Te.cs] at hP hO
  rw [f_reduce_spine_lambda]
  simp only [↓reduceIte, go_sem, Te.cs, len_snoc, Int.natCast_add, Int.natCast_one, wrap64 (n := (es.length : Int)) (by omega) (by omega), show ¬ (es.length : Int) < 0 by omega, show es.length < es.length + 1 by omega, show (es.length : Int) ≤ (es.length : Int) + 1 by omega, Int.add_sub_cancel, hB, hO, hP, htk, spFin]
theorem lam0_ok (env : List De) (A Y Z : List AO) (ver : Nat) (es : List Te) (hes : es.length ≤ 1073741824) (a : Te) (k N : Int) (ls : List Lv) (ks : List Te) :
    F reduce_spine_lambda [.ptr (A.length + (Y.length + 2)) 0] (A ++ (.box [.sl (De.css env), .int .i64 0, .int .i64 0] :: (Y ++ (.lst ver 4 (Te.css (es ++ [a])) :: .box [.ptr A.length 0, .int .i64 k, .int .i64 N, .sl (Lv.css ls), .sl (Te.css ks), .ol (A.length + (Y.length + 1)) ver] :: Z)))) =
    some (.ret (.bool true), A ++ (.box [.sl (De.css env), .int .i64 0, .int .i64 40] :: (Y ++ (.lst (ver + 1) 4 (Te.css es) :: .box [.ptr A.length 0, .int .i64 k, .int .i64 N, .sl (Lv.css ls), .sl (Te.css ks), .ol (A.length + (Y.length + 1)) (ver + 1)] :: Z)))) := by
  have hB : ∀ X, F reduce_Machine_Burn [.ptr A.length 0] (A ++ (.box [.sl (De.css env), .int .i64 0, .int .i64 0] :: X)) = some (.ret (.bool false), A ++ (.box [.sl (De.css env), .int .i64 0, .int .i64 40] :: X)) := by
    intro X
    have hB := BurnP_ok env 0 (by omega) A X
    rwa [if_pos rfl] at hB
  have htk : (Te.css (es ++ [a])).take es.length = Te.css es := by simp [Te.css_eq]
  rw [f_reduce_spine_lambda]
  simp only [↓reduceIte, go_sem, Te.cs, len_snoc, Int.natCast_add, Int.natCast_one, wrap64 (n := (es.length : Int)) (by omega) (by omega), show ¬ (es.length : Int) < 0 by omega, show es.length < es.length + 1 by omega, show (es.length : Int) ≤ (es.length : Int) + 1 by omega, Int.add_sub_cancel, hB, htk, spFin]
theorem set_snoc (es : List Te) (z : List AV) (x : Te) : (Te.css es ++ [z]).set es.length x.cs = Te.css (es ++ [x]) := by
  rw [List.set_append_right _ _ (by rw [tcss_len]; exact Nat.le_refl _), tcss_len, Nat.sub_self]
  simp [Te.css_eq]
theorem css_snoc_len (es : List Te) (z : List AV) : (Te.css es ++ [z]).length = es.length + 1 := by rw [List.length_append, tcss_len]; rfl
theorem css_snoc_get (es : List Te) (z : List AV) : (Te.css es ++ [z])[es.length]? = some z := by rw [List.getElem?_append_right (by rw [tcss_len]; exact Nat.le_refl _), tcss_len, Nat.sub_self]; rfl
theorem spApp_ok (env : List De) (n e : Int) (A Y Z : List AO) (ver : Nat) (es : List Te) (hes : es.length < 1073741824) (k N : Int) (ls : List Lv) (f a : Te) :
    F reduce_spine_app [.ptr (A.length + (Y.length + 2)) 0] (A ++ (.box [.sl (De.css env), .int .i64 n, .int .i64 e] :: (Y ++ (.lst ver 4 (Te.css es) :: .box [.ptr A.length 0, .int .i64 k, .int .i64 N, .sl (Lv.css ls), .sl (Te.css [f, a]), .ol (A.length + (Y.length + 1)) ver] :: Z)))) =
    some (.ret (.bool true), A ++ (.box [.sl (De.css env), .int .i64 n, .int .i64 e] :: (Y ++ (.lst (ver + 1) 4 (Te.css (es ++ [a])) :: .box (.ptr A.length 0 :: (f.cs ++ [.ol (A.length + (Y.length + 1)) (ver + 1)])) :: Z)))) := by
  cases f with
  | mk k' n' ls' ks' =>
  rw [f_reduce_spine_app]
  simp only [↓reduceIte, go_sem, Te.cs, css_snoc_len, css_snoc_get, set_snoc, show es.length < es.length + 1 by omega, show es.length + (0 + 1) ≤ 1073741824 by omega, spFin]
end Go.Ab
