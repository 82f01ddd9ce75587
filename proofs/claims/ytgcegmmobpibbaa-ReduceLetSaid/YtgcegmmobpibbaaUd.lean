/- What a term comes to: the program's machine and its steps. Conditions: none. -/
import Derived.Test.YtgcegmmobpibbaaUb
set_option linter.unusedVariables false
set_option linter.unusedSimpArgs false
set_option maxRecDepth 100000
set_option maxHeartbeats 2000000
namespace Go.Ab
open Go.RowKit Go.Proofs


theorem FailP_ok (env : List De) (n e : Int) (A X : List AO) : F reduce_Machine_Fail [.ptr A.length 0, .int .i64 e] (A ++ (.box [.sl (De.css env), .int .i64 n, .int .i64 0] :: X)) =
    some (.ret (.bool false), A ++ (.box [.sl (De.css env), .int .i64 n, .int .i64 e] :: X)) := by
  have hf0 := fun (o o' : AO) r (ho : LtO (A.length + (X.length + 1)) o') => fin1F_mid0 (A := A) (X := X) (o := o) (o' := o') (r := r) ho
  rw [f_reduce_Machine_Fail]
  simp only [↓reduceIte, go_sem, hf0, mB_lt]
theorem BurnP_ok (env : List De) (n : Int) (hn : 0 ≤ n ∧ n ≤ 1000000) (A X : List AO) : F reduce_Machine_Burn [.ptr A.length 0] (A ++ (.box [.sl (De.css env), .int .i64 n, .int .i64 0] :: X)) =
    if n = 0 then some (.ret (.bool false), A ++ (.box [.sl (De.css env), .int .i64 0, .int .i64 40] :: X)) else some (.ret (.bool true), A ++ (.box [.sl (De.css env), .int .i64 (n - 1), .int .i64 0] :: X)) := by
  have hf0 := fun (o o' : AO) r (ho : LtO (A.length + (X.length + 1)) o') => fin1F_mid0 (A := A) (X := X) (o := o) (o' := o') (r := r) ho
  rw [f_reduce_Machine_Burn]
  by_cases h : n = 0
  · subst h
    simp only [↓reduceIte, go_sem, hf0, mB_lt, FailP_ok]
  · simp only [↓reduceIte, go_sem, hf0, mB_lt, h, wrap64 (n := n - 1) (by omega) (by omega)]
theorem PutP_ok (env : List De) (t : Te) (n e : Int) (A X : List AO) : F reduce_Machine_Put [.ptr A.length 0, .agg t.cs, .int .i64 e] (A ++ (.box [.sl (De.css env), .int .i64 n, .int .i64 0] :: X)) =
    some (.ret (.agg t.cs), A ++ (.box [.sl (De.css env), .int .i64 n, .int .i64 e] :: X)) := by
  have hf0 := fun (o o' : AO) r (ho : LtO (A.length + (X.length + 1)) o') => fin1F_mid0 (A := A) (X := X) (o := o) (o' := o') (r := r) ho
  rw [f_reduce_Machine_Put]
  by_cases h : e = 0
  · subst h
    simp only [↓reduceIte, go_sem, hf0, mB_lt]
  · simp only [↓reduceIte, go_sem, hf0, mB_lt, h, FailP_ok]
theorem app_spine {A Y Z : List AO} {o1 o1' o2 o2' o3 o3' : AO} {n : Nat} (h1 : LtO n o1') (h2 : LtO n o2') (h3 : LtO n o3') : ∀ (id : Nat) (o : AO), (A ++ (o1' :: (Y ++ (o2' :: o3' :: Z))))[id]? = some o → (A ++ (o1 :: (Y ++ (o2 :: o3 :: Z))))[id]? = some o ∨ LtO n o := by
  intro id o ho
  by_cases hi : id < A.length
  · rw [List.getElem?_append_left hi] at ho ⊢; exact .inl ho
  rw [List.getElem?_append_right (by omega)] at ho ⊢
  cases hj : id - A.length with
  | zero => rw [hj] at ho; simp at ho; subst ho; exact .inr h1
  | succ j =>
    rw [hj] at ho
    simp only [List.getElem?_cons_succ] at ho ⊢
    by_cases hy : j < Y.length
    · rw [List.getElem?_append_left hy] at ho ⊢; exact .inl ho
    rw [List.getElem?_append_right (by omega)] at ho ⊢
    match j - Y.length, ho with
    | 0, ho => simp at ho; subst ho; exact .inr h2
    | 1, ho => simp at ho; subst ho; exact .inr h3
    | i + 2, ho => simp at ho; exact .inl (by simpa using ho)
theorem spFin {A Y Z : List AO} {env : List De} {n e n' e' : Int} {ver ver' : Nat} {es es' : List Te} {k N k' N' : Int} {ls ls' : List Lv} {ks ks' : List Te} {b : Bool} :
    fin1F (A ++ (.box [.sl (De.css env), .int .i64 n, .int .i64 e] :: (Y ++ (.lst ver 4 (Te.css es) :: .box [.ptr A.length 0, .int .i64 k, .int .i64 N, .sl (Lv.css ls), .sl (Te.css ks), .ol (A.length + (Y.length + 1)) ver] :: Z)))) (.ret (.bool b))
      (A ++ (.box [.sl (De.css env), .int .i64 n', .int .i64 e'] :: (Y ++ (.lst ver' 4 (Te.css es') :: .box [.ptr A.length 0, .int .i64 k', .int .i64 N', .sl (Lv.css ls'), .sl (Te.css ks'), .ol (A.length + (Y.length + 1)) ver'] :: Z)))) =
    some (.ret (.bool b), A ++ (.box [.sl (De.css env), .int .i64 n', .int .i64 e'] :: (Y ++ (.lst ver' 4 (Te.css es') :: .box [.ptr A.length 0, .int .i64 k', .int .i64 N', .sl (Lv.css ls'), .sl (Te.css ks'), .ol (A.length + (Y.length + 1)) ver'] :: Z)))) := by
  refine fin1F_same (by simp) (.bool _) (app_spine (mB_lt _ _ _ _) (fun a ha => of_eq_true (lt_tcss _ es') a ha) ?_)
  intro a ha
  simp at ha
  rcases ha with rfl | rfl | rfl | rfl | rfl | rfl
  · exact .ptr (by simp)
  · exact .int _ _
  · exact .int _ _
  · exact .sl fun a ha => of_eq_true (lt_css _ ls') a ha
  · exact .sl fun a ha => of_eq_true (lt_tcss _ ks') a ha
  · exact .ol (by simp)
theorem let_ok (env : List De) (n : Nat) (hn : n + 1 ≤ 1000000) (A Y Z : List AO) (ver : Nat) (es : List Te) (N : Int) (ls : List Lv) (s v b k2 : Te) (hb : b.ok) (hv : v.ok) (r : Te) (e : Int) (ho : OpenS b v = (r, e)) :
    F reduce_spine_let [.ptr (A.length + (Y.length + 2)) 0] (A ++ (.box [.sl (De.css env), .int .i64 (n + 1 : Nat), .int .i64 0] :: (Y ++ (.lst ver 4 (Te.css es) :: .box [.ptr A.length 0, .int .i64 7, .int .i64 N, .sl (Lv.css ls), .sl (Te.css [s, v, b]), .ol (A.length + (Y.length + 1)) ver] :: Z)))) =
    some (.ret (.bool true), A ++ (.box [.sl (De.css env), .int .i64 n, .int .i64 e] :: (Y ++ (.lst ver 4 (Te.css es) :: .box (.ptr A.length 0 :: (r.cs ++ [.ol (A.length + (Y.length + 1)) ver])) :: Z)))) := by
  have hO := fun H => OpenP_ok b v hb hv H
  simp only [ho, resT] at hO
  have hB : ∀ X, F reduce_Machine_Burn [.ptr A.length 0] (A ++ (.box [.sl (De.css env), .int .i64 (n + 1 : Nat), .int .i64 0] :: X)) = some (.ret (.bool true), A ++ (.box [.sl (De.css env), .int .i64 n, .int .i64 0] :: X)) := by
    intro X
    have hB := BurnP_ok env ((n + 1 : Nat) : Int) (by omega) A X
    rwa [if_neg (by omega), show (((n + 1 : Nat) : Int) - 1) = n by omega] at hB
  cases r with
  | mk k' n' ls' ks' =>
  have hP := fun e X => PutP_ok env (.mk k' n' ls' ks') n e A X
  simp only [Te.cs] at hP hO
  rw [f_reduce_spine_let]
  simp only [↓reduceIte, go_sem, Te.cs, hB, hO, hP, spFin]
theorem let0_ok (env : List De) (A Y Z : List AO) (ver : Nat) (es : List Te) (N : Int) (ls : List Lv) (ks : List Te) :
    F reduce_spine_let [.ptr (A.length + (Y.length + 2)) 0] (A ++ (.box [.sl (De.css env), .int .i64 0, .int .i64 0] :: (Y ++ (.lst ver 4 (Te.css es) :: .box [.ptr A.length 0, .int .i64 7, .int .i64 N, .sl (Lv.css ls), .sl (Te.css ks), .ol (A.length + (Y.length + 1)) ver] :: Z)))) =
    some (.ret (.bool true), A ++ (.box [.sl (De.css env), .int .i64 0, .int .i64 40] :: (Y ++ (.lst ver 4 (Te.css es) :: .box [.ptr A.length 0, .int .i64 7, .int .i64 N, .sl (Lv.css ls), .sl (Te.css ks), .ol (A.length + (Y.length + 1)) ver] :: Z)))) := by
  have hB : ∀ X, F reduce_Machine_Burn [.ptr A.length 0] (A ++ (.box [.sl (De.css env), .int .i64 0, .int .i64 0] :: X)) = some (.ret (.bool false), A ++ (.box [.sl (De.css env), .int .i64 0, .int .i64 40] :: X)) := by
    intro X
    have hB := BurnP_ok env 0 (by omega) A X
    rwa [if_pos rfl] at hB
  rw [f_reduce_spine_let]
  simp only [↓reduceIte, go_sem, hB, spFin]
theorem unfD_none {env : List De} {j : Nat} {ls : List Lv} (h : unfD env (j : Int) ls = none) : (env.length ≤ j) ∨ ∃ d, env[j]? = some d ∧ j < env.length ∧ (d.has = false ∨ d.has = true ∧ ¬ (ls.length : Int) = d.p) := by
  unfold unfD at h
  simp only [Int.toNat_natCast] at h
  cases hg : env[j]? with
  | none => exact .inl (List.getElem?_eq_none_iff.1 hg)
  | some d =>
    have hl : j < env.length := by
      rcases Nat.lt_or_ge j env.length with h | h
      · exact h
      · rw [List.getElem?_eq_none h] at hg; cases hg
    rw [hg] at h
    dsimp only at h
    refine .inr ⟨d, rfl, hl, ?_⟩
    split at h
    · cases h
    · rename_i hn
      cases hh : d.has
      · exact .inl rfl
      · exact .inr ⟨rfl, fun hp => hn ⟨hh, hp⟩⟩
theorem constN_ok (env : List De) (n e : Int) (A Y Z : List AO) (ver : Nat) (es : List Te) (N : Int) (hN : 0 ≤ N) (ls : List Lv) (ks : List Te) (hu : unfD env N ls = none) :
    F reduce_spine_constant [.ptr (A.length + (Y.length + 2)) 0] (A ++ (.box [.sl (De.css env), .int .i64 n, .int .i64 e] :: (Y ++ (.lst ver 4 (Te.css es) :: .box [.ptr A.length 0, .int .i64 3, .int .i64 N, .sl (Lv.css ls), .sl (Te.css ks), .ol (A.length + (Y.length + 1)) ver] :: Z)))) =
    some (.ret (.bool false), A ++ (.box [.sl (De.css env), .int .i64 n, .int .i64 e] :: (Y ++ (.lst ver 4 (Te.css es) :: .box [.ptr A.length 0, .int .i64 3, .int .i64 N, .sl (Lv.css ls), .sl (Te.css ks), .ol (A.length + (Y.length + 1)) ver] :: Z)))) := by
  obtain ⟨j, rfl⟩ := Int.eq_ofNat_of_zero_le hN
  rw [f_reduce_spine_constant]
  rcases unfD_none hu with h | ⟨d, hg, hl, hh | ⟨hh, hp⟩⟩
  · simp only [↓reduceIte, go_sem, show (env.length : Int) ≤ (j : Int) by omega, spFin]
  · simp only [↓reduceIte, go_sem, show ¬ (env.length : Int) ≤ (j : Int) by omega, hg, hh, spFin]
  · simp only [↓reduceIte, go_sem, show ¬ (env.length : Int) ≤ (j : Int) by omega, hg, hh, hp, spFin]
theorem constP_ok (env : List De) (hE : okDs env) (n : Nat) (hn : n + 1 ≤ 1000000) (A Y Z : List AO) (ver : Nat) (es : List Te) (N : Int) (hN : 0 ≤ N) (ls : List Lv) (hls : okLs ls) (hll : ls.length ≤ 140737488355328) (ks : List Te) (d : De) (hu : unfD env N ls = some d) (r : Te) (e : Int) (hs : TSubS d.value ls [] = (r, e)) :
    F reduce_spine_constant [.ptr (A.length + (Y.length + 2)) 0] (A ++ (.box [.sl (De.css env), .int .i64 (n + 1 : Nat), .int .i64 0] :: (Y ++ (.lst ver 4 (Te.css es) :: .box [.ptr A.length 0, .int .i64 3, .int .i64 N, .sl (Lv.css ls), .sl (Te.css ks), .ol (A.length + (Y.length + 1)) ver] :: Z)))) =
    some (.ret (.bool true), A ++ (.box [.sl (De.css env), .int .i64 n, .int .i64 e] :: (Y ++ (.lst ver 4 (Te.css es) :: .box (.ptr A.length 0 :: (r.cs ++ [.ol (A.length + (Y.length + 1)) ver])) :: Z)))) := by
  have hm := unfD_mem hu
  obtain ⟨j, rfl⟩ := Int.eq_ofNat_of_zero_le hN
  simp only [Int.toNat_natCast] at hm
  have hS := fun H => TSub_ok d.value ls [] (hE.2 d (List.mem_of_getElem? hm.1)).2.2.2 hls okLs_nil hll (by simp) H
  simp only [hs, resT, Lv.css] at hS
  have hl : (j : Int) < (env.length : Int) := by
    have := (List.getElem?_eq_some_iff.1 hm.1).1
    omega
  have hB : ∀ X, F reduce_Machine_Burn [.ptr A.length 0] (A ++ (.box [.sl (De.css env), .int .i64 (n + 1 : Nat), .int .i64 0] :: X)) = some (.ret (.bool true), A ++ (.box [.sl (De.css env), .int .i64 n, .int .i64 0] :: X)) := by
    intro X
    have hB := BurnP_ok env ((n + 1 : Nat) : Int) (by omega) A X
    rwa [if_neg (by omega), show (((n + 1 : Nat) : Int) - 1) = n by omega] at hB
  cases r with
  | mk k' n' ls' ks' =>
  have hP := fun e X => PutP_ok env (.mk k' n' ls' ks') n e A X
  simp only [Te.cs] at hP hS
  rw [f_reduce_spine_constant]
  simp only [↓reduceIte, go_sem, Te.cs, show ¬ (env.length : Int) ≤ (j : Int) by omega, hl, hm.1, hm.2.1, hm.2.2, hB, hS, hP, spFin]
theorem const0_ok (env : List De) (A Y Z : List AO) (ver : Nat) (es : List Te) (N : Int) (hN : 0 ≤ N) (ls : List Lv) (ks : List Te) (d : De) (hu : unfD env N ls = some d) :
    F reduce_spine_constant [.ptr (A.length + (Y.length + 2)) 0] (A ++ (.box [.sl (De.css env), .int .i64 0, .int .i64 0] :: (Y ++ (.lst ver 4 (Te.css es) :: .box [.ptr A.length 0, .int .i64 3, .int .i64 N, .sl (Lv.css ls), .sl (Te.css ks), .ol (A.length + (Y.length + 1)) ver] :: Z)))) =
    some (.ret (.bool true), A ++ (.box [.sl (De.css env), .int .i64 0, .int .i64 40] :: (Y ++ (.lst ver 4 (Te.css es) :: .box [.ptr A.length 0, .int .i64 3, .int .i64 N, .sl (Lv.css ls), .sl (Te.css ks), .ol (A.length + (Y.length + 1)) ver] :: Z)))) := by
  have hm := unfD_mem hu
  obtain ⟨j, rfl⟩ := Int.eq_ofNat_of_zero_le hN
  simp only [Int.toNat_natCast] at hm
  have hl : (j : Int) < (env.length : Int) := by
    have := (List.getElem?_eq_some_iff.1 hm.1).1
    omega
  have hB : ∀ X, F reduce_Machine_Burn [.ptr A.length 0] (A ++ (.box [.sl (De.css env), .int .i64 0, .int .i64 0] :: X)) = some (.ret (.bool false), A ++ (.box [.sl (De.css env), .int .i64 0, .int .i64 40] :: X)) := by
    intro X
    have hB := BurnP_ok env 0 (by omega) A X
    rwa [if_pos rfl] at hB
  rw [f_reduce_spine_constant]
  simp only [↓reduceIte, go_sem, show ¬ (env.length : Int) ≤ (j : Int) by omega, hl, hm.1, hm.2.1, hm.2.2, hB, spFin]
theorem lamN_ok (env : List De) (n e : Int) (A Y Z : List AO) (ver : Nat) (k N : Int) (ls : List Lv) (ks : List Te) :
    F reduce_spine_lambda [.ptr (A.length + (Y.length + 2)) 0] (A ++ (.box [.sl (De.css env), .int .i64 n, .int .i64 e] :: (Y ++ (.lst ver 4 (Te.css []) :: .box [.ptr A.length 0, .int .i64 k, .int .i64 N, .sl (Lv.css ls), .sl (Te.css ks), .ol (A.length + (Y.length + 1)) ver] :: Z)))) =
    some (.ret (.bool false), A ++ (.box [.sl (De.css env), .int .i64 n, .int .i64 e] :: (Y ++ (.lst ver 4 (Te.css []) :: .box [.ptr A.length 0, .int .i64 k, .int .i64 N, .sl (Lv.css ls), .sl (Te.css ks), .ol (A.length + (Y.length + 1)) ver] :: Z)))) := by
  rw [f_reduce_spine_lambda]
  simp only [↓reduceIte, go_sem, List.length_nil, Int.natCast_zero, show IntKind.i64.wrap (-1) = -1 from by decide, show ((-1 : Int) < 0) from by decide, spFin]
theorem lam_ok (env : List De) (n : Nat) (hn : n + 1 ≤ 1000000) (A Y Z : List AO) (ver : Nat) (es : List Te) (hes : es.length ≤ 1073741824) (a : Te) (ha : a.ok) (k N : Int) (ls : List Lv) (s b : Te) (hb : b.ok) (r : Te) (e : Int) (ho : OpenS b a = (r, e)) :
    F reduce_spine_lambda [.ptr (A.length + (Y.length + 2)) 0] (A ++ (.box [.sl (De.css env), .int .i64 (n + 1 : Nat), .int .i64 0] :: (Y ++ (.lst ver 4 (Te.css (es ++ [a])) :: .box [.ptr A.length 0, .int .i64 k, .int .i64 N, .sl (Lv.css ls), .sl (Te.css [s, b]), .ol (A.length + (Y.length + 1)) ver] :: Z)))) =
    some (.ret (.bool true), A ++ (.box [.sl (De.css env), .int .i64 n, .int .i64 e] :: (Y ++ (.lst (ver + 1) 4 (Te.css es) :: .box (.ptr A.length 0 :: (r.cs ++ [.ol (A.length + (Y.length + 1)) (ver + 1)])) :: Z)))) := by
  have hO := fun H => OpenP_ok b a hb ha H
  simp only [ho, resT] at hO
  have hB : ∀ X, F reduce_Machine_Burn [.ptr A.length 0] (A ++ (.box [.sl (De.css env), .int .i64 (n + 1 : Nat), .int .i64 0] :: X)) = some (.ret (.bool true), A ++ (.box [.sl (De.css env), .int .i64 n, .int .i64 0] :: X)) := by
    intro X
    have hB := BurnP_ok env ((n + 1 : Nat) : Int) (by omega) A X
    rwa [if_neg (by omega), show (((n + 1 : Nat) : Int) - 1) = n by omega] at hB
  simp only [Int.natCast_add, Int.natCast_one] at hB
  have htk : (Te.css (es ++ [a])).take es.length = Te.css es := by simp [Te.css_eq]
  cases r with
  | mk k' n' ls' ks' =>
  have hP := fun e X => PutP_ok env (.mk k' n' ls' ks') n e A X
  simp only [Te.cs] at hP hO
  rw [f_reduce_spine_lambda]
  simp only [↓reduceIte, go_sem, Te.cs, len_snoc, Int.natCast_add, Int.natCast_one, wrap64 (n := (es.length : Int)) (by omega) (by omega), show ¬ (es.length : Int) < 0 by omega, show es.length < es.length + 1 by omega, show (es.length : Int) ≤ (es.length : Int) + 1 by omega, Int.add_sub_cancel, hB, hO, hP, htk, spFin]
theorem lam0_ok (env : List De) (A Y Z : List AO) (ver : Nat) (es : List Te) (hes : es.length ≤ 1073741824) (a : Te) (k N : Int) (ls : List Lv) (ks : List Te) :
    F reduce_spine_lambda [.ptr (A.length + (Y.length + 2)) 0] (A ++ (.box [.sl (De.css env), .int .i64 0, .int .i64 0] :: (Y ++ (.lst ver 4 (Te.css (es ++ [a])) :: .box [.ptr A.length 0, .int .i64 k, .int .i64 N, .sl (Lv.css ls), .sl (Te.css ks), .ol (A.length + (Y.length + 1)) ver] :: Z)))) =
    some (.ret (.bool true), A ++ (.box [.sl (De.css env), .int .i64 0, .int .i64 40] :: (Y ++ (.lst (ver + 1) 4 (Te.css es) :: .box [.ptr A.length 0, .int .i64 k, .int .i64 N, .sl (Lv.css ls), .sl (Te.css ks), .ol (A.length + (Y.length + 1)) (ver + 1)] :: Z)))) := by
  have hB : ∀ X, F reduce_Machine_Burn [.ptr A.length 0] (A ++ (.box [.sl (De.css env), .int .i64 0, .int .i64 0] :: X)) = some (.ret (.bool false), A ++ (.box [.sl (De.css env), .int .i64 0, .int .i64 40] :: X)) := by
    intro X
    have hB := BurnP_ok env 0 (by omega) A X
    rwa [if_pos rfl] at hB
  have htk : (Te.css (es ++ [a])).take es.length = Te.css es := by simp [Te.css_eq]
  rw [f_reduce_spine_lambda]
  simp only [↓reduceIte, go_sem, Te.cs, len_snoc, Int.natCast_add, Int.natCast_one, wrap64 (n := (es.length : Int)) (by omega) (by omega), show ¬ (es.length : Int) < 0 by omega, show es.length < es.length + 1 by omega, show (es.length : Int) ≤ (es.length : Int) + 1 by omega, Int.add_sub_cancel, hB, htk, spFin]
theorem set_snoc (es : List Te) (z : List AV) (x : Te) : (Te.css es ++ [z]).set es.length x.cs = Te.css (es ++ [x]) := by
  rw [List.set_append_right _ _ (by rw [tcss_len]; exact Nat.le_refl _), tcss_len, Nat.sub_self]
  simp [Te.css_eq]
theorem css_snoc_len (es : List Te) (z : List AV) : (Te.css es ++ [z]).length = es.length + 1 := by rw [List.length_append, tcss_len]; rfl
theorem css_snoc_get (es : List Te) (z : List AV) : (Te.css es ++ [z])[es.length]? = some z := by rw [List.getElem?_append_right (by rw [tcss_len]; exact Nat.le_refl _), tcss_len, Nat.sub_self]; rfl
theorem spApp_ok (env : List De) (n e : Int) (A Y Z : List AO) (ver : Nat) (es : List Te) (hes : es.length < 1073741824) (k N : Int) (ls : List Lv) (f a : Te) :
    F reduce_spine_app [.ptr (A.length + (Y.length + 2)) 0] (A ++ (.box [.sl (De.css env), .int .i64 n, .int .i64 e] :: (Y ++ (.lst ver 4 (Te.css es) :: .box [.ptr A.length 0, .int .i64 k, .int .i64 N, .sl (Lv.css ls), .sl (Te.css [f, a]), .ol (A.length + (Y.length + 1)) ver] :: Z)))) =
    some (.ret (.bool true), A ++ (.box [.sl (De.css env), .int .i64 n, .int .i64 e] :: (Y ++ (.lst (ver + 1) 4 (Te.css (es ++ [a])) :: .box (.ptr A.length 0 :: (f.cs ++ [.ol (A.length + (Y.length + 1)) (ver + 1)])) :: Z)))) := by
  cases f with
  | mk k' n' ls' ks' =>
  rw [f_reduce_spine_app]
  simp only [↓reduceIte, go_sem, Te.cs, css_snoc_len, css_snoc_get, set_snoc, show es.length < es.length + 1 by omega, show es.length + (0 + 1) ≤ 1073741824 by omega, spFin]


def stepsV : List (AV × AV) := [(.int .i64 7, .fn (.func reduce_spine_let) [] []), (.int .i64 3, .fn (.func reduce_spine_constant) [] []), (.int .i64 5, .fn (.func reduce_spine_lambda) [] []), (.int .i64 4, .fn (.func reduce_spine_app) [] [])]
theorem steps_ok (H : List AO) : F reduce_steps [] H = some (.ret (.fmap stepsV), H) := by
  rw [f_reduce_steps]
  simp only [↓reduceIte, go_sem, keysI, findI, stepsV]
theorem steps_keys : keysI .i64 stepsV = true := rfl
theorem steps_none (k : Int) (h : k ≠ 7 ∧ k ≠ 3 ∧ k ≠ 5 ∧ k ≠ 4) : findI k stepsV = some none := by
  simp only [findI, stepsV, if_neg h.1, if_neg h.2.1, if_neg h.2.2.1, if_neg h.2.2.2]
theorem steps_7 : findI 7 stepsV = some (some (.fn (.func reduce_spine_let) [] [])) := rfl
theorem steps_3 : findI 3 stepsV = some (some (.fn (.func reduce_spine_constant) [] [])) := rfl
theorem steps_5 : findI 5 stepsV = some (some (.fn (.func reduce_spine_lambda) [] [])) := rfl
theorem steps_4 : findI 4 stepsV = some (some (.fn (.func reduce_spine_app) [] [])) := rfl

abbrev encP (p : Int × Te) : List AV := [.int .i64 p.1, .agg p.2.cs]
/-- A list, from the end on, with the places. -/
def bkr : List Te → List (Int × Te)
  | [] => []
  | x :: r => (r.length, x) :: bkr r
def backV (id ver : Nat) : AV := .fn (.func slices_Backward_Term_1) [] [.fp [.ol id ver]]
theorem back_ok (id ver : Nat) (H : List AO) (hi : id < H.length) : F slices_Backward_Term [.ol id ver] H = some (.ret (backV id ver), H) := by
  rw [f_slices_Backward_Term]
  have h : Lt H.length (.fn (.func slices_Backward_Term_1) [] [.fp [.ol id ver]]) = True := by
    simp only [eq_iff_iff, iff_true]
    refine .fn (by simp) ?_
    intro x hx
    simp at hx
    subst hx
    exact .fp (by intro a ha; simp at ha; subst ha; exact .ol hi)
  simp only [↓reduceIte, go_sem, backV, h]
theorem back_seq {S E : Type} {y : AV} {m : Nat} {W : S → List AO} {WE : E → List AO} {stp : S → Int × Te → Option (S ⊕ E)} (hy : Ys y m encP W WE stp) (id ver : Nat) (es : List Te) (hes : es.length ≤ 1073741824) (hW : ∀ s, (W s)[id]? = some (.lst ver 4 (Te.css es)))
    (s : S) (X : List AO) (r : S ⊕ E) (hr : fold stp (bkr es.reverse) s = some r) : F slices_Backward_Term_1 [y, .fp [.ol id ver]] (W s ++ X) = some (.ret (.tup []), hp W WE r ++ X) := by
  have hone := hy.one
  have hcell : y.cells = [y] := by cases y <;> first | rfl | (simp [AV.one] at hone)
  unfold AV.cells at hcell
  unfold AV.one at hone
  have l1 : ∀ s, (W s).length = m := fun s => hy.len (.inl s)
  have hid : id < m := by
    have := hW s
    have := (List.getElem?_eq_some_iff.1 this).1
    rw [l1 s] at this; exact this
  have hWX : ∀ s, (W s ++ X)[id]? = some (.lst ver 4 (Te.css es)) := fun s => by rw [List.getElem?_append_left (by rw [l1]; exact hid), hW s]
  have hfin : ∀ r : S ⊕ E, fin1F (W s ++ X) (.ret (.tup [])) (hp W WE r ++ X) = some (.ret (.tup []), hp W WE r ++ X) := fun r => by
    have hf := fin1_yd (H := W s) (A := hp W WE r) (X := X) (J := []) (r := .ret (.tup [])) (by rw [hy.len r]; exact (l1 s).symm) (by rw [l1 s]; exact hy.fr s r) (show Lt _ _ from .tup (by simp))
    rwa [List.append_nil] at hf
  have loop : ∀ (rev post : List Te) (a : S), es = rev.reverse ++ post → fold stp (bkr rev) a = some r →
      L_slices_Backward_Term_1_0 (W s ++ X) (W a ++ X) y (.fp [.ol id ver]) (.int .i64 ((rev.length : Int) - 1)) = some (.ret (.tup []), hp W WE r ++ X) := by
    intro rev
    induction rev with
    | nil =>
      intro post a e hq
      simp only [bkr, fold] at hq
      cases hq
      have := hfin (.inl a)
      simp only [hp_inl] at this
      rw [L_slices_Backward_Term_1_0, awL_eq]
      simp only [↓reduceIte, go_sem, List.length_nil, Int.natCast_zero, show ¬ (0 : Int) ≤ -1 by decide, this]
    | cons x rev ih =>
      intro post a e hq
      have hl : rev.length < es.length := by rw [e]; simp
      have hg : es[rev.length]? = some x := by
        rw [e]; simp
      rw [bkr, fold] at hq
      obtain ⟨q, hst⟩ : ∃ q, stp a (rev.length, x) = some q := by
        cases h : stp a (rev.length, x) with
        | none => rw [h] at hq; cases hq
        | some q => exact ⟨q, rfl⟩
      rw [hst] at hq
      have hc := hy.call a (rev.length, x) X q hst
      simp only [encP] at hc
      rw [L_slices_Backward_Term_1_0, awL_eq]
      cases q with
      | inl a' =>
        have := ih (x :: post) a' (by rw [e]; simp) hq
        simp only [hp_inl] at hc
        simp only [↓reduceIte, go_sem, List.length_cons, Int.natCast_add, Int.natCast_one, Int.add_sub_cancel, show (0 : Int) ≤ (rev.length : Int) by omega, hWX, hg, hl, hc, isL, hone, hcell, wrap64 (n := (rev.length : Int) - 1) (by omega) (by omega), this]
      | inr e =>
        dsimp only at hq
        cases hq
        simp only [hp_inr] at hc
        have := hfin (.inr e)
        simp only [hp_inr] at this
        simp only [↓reduceIte, go_sem, List.length_cons, Int.natCast_add, Int.natCast_one, Int.add_sub_cancel, show (0 : Int) ≤ (rev.length : Int) by omega, hWX, hg, hl, hc, isL, hone, hcell, this]
  have := loop es.reverse [] s (by simp) hr
  simp only [List.length_reverse] at this
  rw [f_slices_Backward_Term_1]
  simp only [↓reduceIte, go_sem, hWX, wrap64 (n := (es.length : Int) - 1) (by omega) (by omega), this]

def headD (p : AV) (n ver : Nat) (es : List Te) (s : Te) : List AO := [.lst 0 3 [], .lst 0 4 [], .lst ver 4 (Te.css es), .box (p :: (s.cs ++ [.ol (n + 2) ver])), .box [.ptr (n + 3) 0]]
def headS (s : Te) (x : Int × Te) : Option (Te ⊕ Empty) := some (.inl (.mk 4 0 [] [s, x.2]))
theorem headD_lt (p : AV) (n ver : Nat) (es : List Te) (N : Nat) (hp : Lt N p) (hn : n + 3 < N) (s : Te) : ∀ o ∈ headD p n ver es s, LtO N o := by
  intro o ho
  simp only [headD, List.mem_cons, List.not_mem_nil, or_false] at ho
  rcases ho with rfl | rfl | rfl | rfl | rfl
  · intro a ha; simp at ha
  · intro a ha; simp at ha
  · exact fun a ha => of_eq_true (lt_tcss _ es) a ha
  · intro a ha
    rcases List.mem_cons.1 ha with rfl | ha
    · exact hp
    · rcases List.mem_append.1 ha with ha | ha
      · exact tcs_lt _ s a ha
      · simp at ha; subst ha; exact .ol (by omega)
  · intro a ha
    simp at ha; subst ha; exact .ptr (by omega)
theorem head_ys (H : List AO) (p : AV) (hp : Lt H.length p) (ver : Nat) (es : List Te) : Ys (.yd (H.length + 5 + 1)) (H.length + 5 + 2) encP (fun s => H ++ (headD p H.length ver es s ++ [.dfr, .slp .ready 60 [(5, .ptr (H.length + 4) 0)] [44, 45] s_reduce_Machine_Head_0 y_reduce_Machine_Head_0])) (fun e : Empty => H ++ (noE e ++ [.dfr, .slp (.done (noE e)) 60 [(5, .ptr (H.length + 4) 0)] [44, 45] s_reduce_Machine_Head_0 y_reduce_Machine_Head_0])) headS := by
  refine ys_of H 5 encP (headD p H.length ver es) noE noE headS 60 [(5, .ptr (H.length + 4) 0)] [44, 45] s_reduce_Machine_Head_0 y_reduce_Machine_Head_0 o_s_reduce_Machine_Head_0 o_y_reduce_Machine_Head_0 (fun _ => rfl) ?_ ?_ ?_ ?_
  · rintro (s | e)
    · rfl
    · exact e.elim
  · rintro s (s' | e) i o ho
    · exact .inr (headD_lt p H.length ver es _ (hp.mono (by omega)) (by omega) s' o (List.mem_of_getElem? ho))
    · exact e.elim
  · intro q hq; simp at hq; subst hq; exact .ptr (by omega)
  · rintro ⟨k, n, ls, ks⟩ ⟨i, a⟩ X r hst
    refine ⟨[], ?_⟩
    unfold headS at hst
    cases hst
    rcases a with ⟨k2, n2, ls2, ks2⟩
    simp only [↓reduceIte, go_sem, headD, encP, Te.cs, Te.css, Lv.css, lstO, isL]
def reb : Te → List (Int × Te) → Te
  | t, [] => t
  | t, x :: r => reb (.mk 4 0 [] [t, x.2]) r
theorem head_fold : ∀ (xs : List (Int × Te)) (t : Te), fold headS xs t = some (.inl (reb t xs))
  | [], t => rfl
  | x :: r, t => by rw [fold, reb]; exact head_fold r _
/-- A term with what it is applied to, the first one on top. -/
def rebuild (t : Te) (es : List Te) : Te := reb t (bkr es.reverse)
theorem rebuild_nil (t : Te) : rebuild t [] = t := rfl
theorem rebuild_snoc (t a : Te) (es : List Te) : rebuild t (es ++ [a]) = rebuild (.mk 4 0 [] [t, a]) es := by
  rw [rebuild, List.reverse_append, List.reverse_cons, List.reverse_nil, List.nil_append, List.cons_append, List.nil_append, bkr, reb]; rfl
end Go.Ab
