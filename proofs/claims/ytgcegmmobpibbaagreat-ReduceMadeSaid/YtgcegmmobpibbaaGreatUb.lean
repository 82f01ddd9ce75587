/- What a term comes to: the document's machine. Conditions: none. -/
import Derived.Test.YtgcegmmobpibbaaGreatUa
import Derived.Test.YtgcegmmobpibbaaGreatTa
set_option linter.unusedVariables false
set_option linter.unusedSimpArgs false
set_option maxRecDepth 100000
set_option maxHeartbeats 2000000
namespace Go.Ab
open Go.RowKit Go.Proofs

/-- The declaration whose value a Const unfolds to. -/
def unfD (env : List De) (n : Int) (ls : List Lv) : Option De := match env[n.toNat]? with
  | some d => if d.has = true ∧ (ls.length : Int) = d.p then some d else none
  | none => none
/-- With so much fuel a term comes to another, and so much is left. -/
inductive Hd (env : List De) : Nat → Te → Te → Nat → Prop
  | stuck {n : Nat} {k N : Int} {ls : List Lv} {ks : List Te} : k ≠ 4 → k ≠ 7 → (k = 3 → 0 ≤ N ∧ unfD env N ls = none) → Hd env n (.mk k N ls ks) (.mk k N ls ks) n
  | lett {n : Nat} {N : Int} {ls : List Lv} {s v b r t' : Te} {n' : Nat} : OpenS b v = (r, 0) → Hd env n r t' n' → Hd env (n + 1) (.mk 7 N ls [s, v, b]) t' n'
  | const {n : Nat} {N : Int} {ls : List Lv} {ks : List Te} {d : De} {r t' : Te} {n' : Nat} : 0 ≤ N → unfD env N ls = some d → TSubS d.value ls [] = (r, 0) → Hd env n r t' n' → Hd env (n + 1) (.mk 3 N ls ks) t' n'
  | app {n : Nat} {N : Int} {ls : List Lv} {f a f' : Te} {n' : Nat} : Hd env n f f' n' → f'.kind ≠ 5 → Hd env n (.mk 4 N ls [f, a]) (.mk 4 0 [] [f', a]) n'
  | beta {n : Nat} {N : Int} {ls : List Lv} {f a : Te} {N2 : Int} {ls2 : List Lv} {s b : Te} {m : Nat} {r t' : Te} {n' : Nat} : Hd env n f (.mk 5 N2 ls2 [s, b]) (m + 1) → OpenS b a = (r, 0) → Hd env m r t' n' → Hd env n (.mk 4 N ls [f, a]) t' n'
/-- With so much fuel there is an error, and so much is left. -/
inductive He (env : List De) : Nat → Te → Nat → Int → Prop
  | let0 {N : Int} {ls : List Lv} {s v b : Te} : He env 0 (.mk 7 N ls [s, v, b]) 0 40
  | let2 {n : Nat} {N : Int} {ls : List Lv} {s v b r : Te} {e : Int} : OpenS b v = (r, e) → e ≠ 0 → He env (n + 1) (.mk 7 N ls [s, v, b]) n e
  | letr {n : Nat} {N : Int} {ls : List Lv} {s v b r : Te} {n' : Nat} {e : Int} : OpenS b v = (r, 0) → He env n r n' e → He env (n + 1) (.mk 7 N ls [s, v, b]) n' e
  | const0 {N : Int} {ls : List Lv} {ks : List Te} {d : De} : 0 ≤ N → unfD env N ls = some d → He env 0 (.mk 3 N ls ks) 0 40
  | const2 {n : Nat} {N : Int} {ls : List Lv} {ks : List Te} {d : De} {r : Te} {e : Int} : 0 ≤ N → unfD env N ls = some d → TSubS d.value ls [] = (r, e) → e ≠ 0 → He env (n + 1) (.mk 3 N ls ks) n e
  | constr {n : Nat} {N : Int} {ls : List Lv} {ks : List Te} {d : De} {r : Te} {n' : Nat} {e : Int} : 0 ≤ N → unfD env N ls = some d → TSubS d.value ls [] = (r, 0) → He env n r n' e → He env (n + 1) (.mk 3 N ls ks) n' e
  | appf {n : Nat} {N : Int} {ls : List Lv} {f a : Te} {n' : Nat} {e : Int} : He env n f n' e → He env n (.mk 4 N ls [f, a]) n' e
  | beta0 {n : Nat} {N : Int} {ls : List Lv} {f a : Te} {N2 : Int} {ls2 : List Lv} {s b : Te} : Hd env n f (.mk 5 N2 ls2 [s, b]) 0 → He env n (.mk 4 N ls [f, a]) 0 40
  | beta2 {n : Nat} {N : Int} {ls : List Lv} {f a : Te} {N2 : Int} {ls2 : List Lv} {s b : Te} {m : Nat} {r : Te} {e : Int} : Hd env n f (.mk 5 N2 ls2 [s, b]) (m + 1) → OpenS b a = (r, e) → e ≠ 0 → He env n (.mk 4 N ls [f, a]) m e
  | betar {n : Nat} {N : Int} {ls : List Lv} {f a : Te} {N2 : Int} {ls2 : List Lv} {s b : Te} {m : Nat} {r : Te} {n' : Nat} {e : Int} : Hd env n f (.mk 5 N2 ls2 [s, b]) (m + 1) → OpenS b a = (r, 0) → He env m r n' e → He env n (.mk 4 N ls [f, a]) n' e
theorem He.ne {env : List De} {n : Nat} {t : Te} {n' : Nat} {e : Int} (h : He env n t n' e) : e ≠ 0 := by
  induction h <;> first | decide | assumption
theorem Hd.le {env : List De} {n : Nat} {t t' : Te} {n' : Nat} (h : Hd env n t t' n') : n' ≤ n := by
  induction h <;> omega
theorem unfD_mem {env : List De} {n : Int} {ls : List Lv} {d : De} (h : unfD env n ls = some d) : env[n.toNat]? = some d ∧ d.has = true ∧ (ls.length : Int) = d.p := by
  unfold unfD at h
  cases hg : env[n.toNat]? with
  | none => rw [hg] at h; cases h
  | some x =>
    rw [hg] at h
    dsimp only at h
    split at h
    · cases h; rename_i h; exact ⟨rfl, h⟩
    · cases h
theorem OpenS_ok' {b v r : Te} {e : Int} (h : OpenS b v = (r, e)) (hb : b.ok) (hv : v.ok) : r.ok := by
  have := OpenS_ok hb hv
  rw [h] at this; exact this
theorem okLs_nil : okLs [] := by intro x hx; cases hx
theorem const_ok {env : List De} (he : okDs env) {n : Int} {ls : List Lv} {ks : List Te} {d : De} {r : Te} {e : Int} (ht : (Te.mk 3 n ls ks).ok) (hu : unfD env n ls = some d) (hs : TSubS d.value ls [] = (r, e)) : r.ok := by
  have hd := he.2 d (List.mem_of_getElem? (unfD_mem hu).1)
  have := TSubS_ok hd.2.2.2 (ps := ls) (ms := []) ht.all2 okLs_nil
  rw [hs] at this; exact this
theorem Hd.ok {env : List De} (he : okDs env) {n : Nat} {t t' : Te} {n' : Nat} (h : Hd env n t t' n') : t.ok → t'.ok := by
  induction h with
  | stuck => exact id
  | lett ho _ ih =>
    intro ht
    exact ih (OpenS_ok' ho (ht.all _ (by simp)) (ht.all _ (by simp)))
  | const _ hu hs _ ih => exact fun ht => ih (const_ok he ht hu hs)
  | app _ _ ih =>
    intro ht
    have hf := ih (ht.all _ (by simp))
    have ha := ht.all _ (show _ ∈ [_, _] from List.mem_cons_of_mem _ (List.mem_singleton.2 rfl))
    exact .mk (by simp) (by simp) (by intro x hx; cases hx) (by intro x hx; simp at hx; rcases hx with rfl | rfl <;> assumption)
  | beta _ ho _ ih1 ih2 =>
    intro ht
    have hf := ih1 (ht.all _ (by simp))
    exact ih2 (OpenS_ok' ho (hf.all _ (by simp)) (ht.all _ (by simp)))

/-! ### The document's machine -/
theorem decs_lt (n : Nat) (d : De) : ∀ a ∈ d.cs, Lt n a := by
  rcases d with ⟨p, cons, t, h, v⟩
  intro a ha
  simp only [De.cs, De.p, De.cons, De.type, De.has, De.value, List.mem_append, List.mem_cons, List.not_mem_nil, or_false] at ha
  rcases ha with (((rfl | rfl) | ha) | rfl) | ha
  · exact .int _ _
  · refine .sl fun x hx => ?_
    obtain ⟨l, hl, hx⟩ := List.mem_flatten.1 hx
    obtain ⟨c, _, rfl⟩ := List.mem_map.1 hl
    rcases List.mem_append.1 hx with hx | hx
    · exact cs_lt n c.a x hx
    · exact cs_lt n c.b x hx
  · exact tcs_lt n t a ha
  · exact .bool _
  · exact tcs_lt n v a ha
theorem decss_lt (n : Nat) (env : List De) : ∀ a ∈ (De.css env).flatten, Lt n a := by
  intro a ha
  obtain ⟨l, hl, hx⟩ := List.mem_flatten.1 ha
  obtain ⟨d, _, rfl⟩ := List.mem_map.1 hl
  exact decs_lt n d a hx
@[go_sem] theorem lt_decss (n : Nat) (env : List De) : (∀ a ∈ (De.css env).flatten, Lt n a) = True := eq_true (decss_lt n env)
theorem mB_lt (n : Nat) (env : List De) (f e : Int) : LtO n (.box [.sl (De.css env), .int .i64 f, .int .i64 e]) := by
  intro a ha
  simp at ha
  rcases ha with rfl | rfl | rfl
  · exact .sl (decss_lt n env)
  · exact .int _ _
  · exact .int _ _
theorem Burn16_ok (env : List De) (n : Int) (hn : 0 ≤ n ∧ n ≤ 1000000) (A X : List AO) : F ref16_Machine_Burn [.ptr A.length 0] (A ++ (.box [.sl (De.css env), .int .i64 n, .int .i64 0] :: X)) =
    if n = 0 then some (.ret (.bool false), A ++ (.box [.sl (De.css env), .int .i64 0, .int .i64 40] :: X)) else some (.ret (.bool true), A ++ (.box [.sl (De.css env), .int .i64 (n - 1), .int .i64 0] :: X)) := by
  have hf := fun (o o' : AO) r J (ho : LtO (A.length + (X.length + 1)) o') => fin1F_mid1 (A := A) (X := X) (J := J) (o := o) (o' := o') (r := r) ho
  have hf0 := fun (o o' : AO) r (ho : LtO (A.length + (X.length + 1)) o') => fin1F_mid0 (A := A) (X := X) (o := o) (o' := o') (r := r) ho
  rw [f_ref16_Machine_Burn]
  by_cases h : n = 0
  · subst h
    simp only [↓reduceIte, go_sem, hf, hf0, mB_lt, show (0 : Int) < 1 by decide]
  · simp only [↓reduceIte, go_sem, hf, hf0, mB_lt, h, show ¬ n < 1 by omega, wrap64 (n := n - 1) (by omega) (by omega)]
theorem Fail16_ok (env : List De) (n e : Int) (A X : List AO) : F ref16_Machine_Fail [.ptr A.length 0, .int .i64 e] (A ++ (.box [.sl (De.css env), .int .i64 n, .int .i64 0] :: X)) =
    some (.ret (.tup []), A ++ (.box [.sl (De.css env), .int .i64 n, .int .i64 e] :: X)) := by
  have hf0 := fun (o o' : AO) r (ho : LtO (A.length + (X.length + 1)) o') => fin1F_mid0 (A := A) (X := X) (o := o) (o' := o') (r := r) ho
  rw [f_ref16_Machine_Fail]
  simp only [↓reduceIte, go_sem, hf0, mB_lt]
theorem Put16_ok (env : List De) (t : Te) (n e : Int) (A X : List AO) : F ref16_Machine_Put [.ptr A.length 0, .agg t.cs, .int .i64 e] (A ++ (.box [.sl (De.css env), .int .i64 n, .int .i64 0] :: X)) =
    some (.ret (.agg t.cs), A ++ (.box [.sl (De.css env), .int .i64 n, .int .i64 e] :: X)) := by
  have hf0 := fun (o o' : AO) r (ho : LtO (A.length + (X.length + 1)) o') => fin1F_mid0 (A := A) (X := X) (o := o) (o' := o') (r := r) ho
  rw [f_ref16_Machine_Put]
  by_cases h : e = 0
  · subst h
    simp only [↓reduceIte, go_sem, hf0, mB_lt]
  · simp only [↓reduceIte, go_sem, hf0, mB_lt, h, Fail16_ok]
theorem unfolds_ok (env : List De) (n e : Int) (k N : Int) (ls : List Lv) (ks : List Te) (hN : k = 3 → 0 ≤ N) (A X : List AO) : F ref16_Machine_unfolds [.ptr A.length 0, .agg [.int .i64 k, .int .i64 N, .sl (Lv.css ls), .sl (Te.css ks)]] (A ++ (.box [.sl (De.css env), .int .i64 n, .int .i64 e] :: X)) =
    some (.ret (.bool (decide (k = 3) && (unfD env N ls).isSome)), A ++ (.box [.sl (De.css env), .int .i64 n, .int .i64 e] :: X)) := by
  have hf0 := fun (o o' : AO) r (ho : LtO (A.length + (X.length + 1)) o') => fin1F_mid0 (A := A) (X := X) (o := o) (o' := o') (r := r) ho
  rw [f_ref16_Machine_unfolds]
  by_cases h : k = 3
  · subst h
    have hN := hN rfl
    obtain ⟨j, rfl⟩ := Int.eq_ofNat_of_zero_le hN
    unfold unfD
    simp only [Int.toNat_natCast]
    cases hg : env[j]? with
    | none =>
      have hl := List.getElem?_eq_none_iff.1 hg
      simp only [↓reduceIte, go_sem, hf0, mB_lt, show ¬ (j : Int) < (env.length : Int) by omega, Option.isSome_none]
    | some d =>
      have hl : j < env.length := by
        rcases Nat.lt_or_ge j env.length with h | h
        · exact h
        · rw [List.getElem?_eq_none h] at hg; cases hg
      have hlI : (j : Int) < (env.length : Int) := by omega
      cases hh : d.has
      · simp only [↓reduceIte, go_sem, hf0, mB_lt, hl, hlI, hg, hh, Option.isSome_none, Option.isSome_some, Bool.false_eq_true, false_and]
      · by_cases hp : (ls.length : Int) = d.p
        · simp only [↓reduceIte, go_sem, hf0, mB_lt, hl, hlI, hg, hh, hp, Option.isSome_none, Option.isSome_some]
        · simp only [↓reduceIte, go_sem, hf0, mB_lt, hl, hlI, hg, hh, hp, Option.isSome_none, Option.isSome_some]
  · simp only [↓reduceIte, go_sem, hf0, mB_lt, h]

theorem head16_in (env : List De) (x : Te) (n : Int) (e : Int) (A X : List AO) (he : e ≠ 0) (n0 e0 : Int) (v4 : List AV) (hv : v4 = [.int .i64 0, .int .i64 0, .sl [], .sl []]) :
    L_ref16_Machine_Head_0 (A ++ (.box [.sl (De.css env), .int .i64 n0, .int .i64 e0] :: X)) (A ++ (.box [.sl (De.css env), .int .i64 n, .int .i64 e] :: X)) (.ptr A.length 0) x.cs v4 =
    some (.ret (.agg x.cs), A ++ (.box [.sl (De.css env), .int .i64 n, .int .i64 e] :: X)) := by
  have hf0 := fun (o o' : AO) r (ho : LtO (A.length + (X.length + 1)) o') => fin1F_mid0 (A := A) (X := X) (o := o) (o' := o') (r := r) ho
  subst hv
  rw [L_ref16_Machine_Head_0, awL_eq]
  simp only [↓reduceIte, go_sem, hf0, mB_lt, he]
theorem Head16_L (env : List De) (t : Te) (n e : Int) (A X : List AO) : F ref16_Machine_Head [.ptr A.length 0, .agg t.cs] (A ++ (.box [.sl (De.css env), .int .i64 n, .int .i64 e] :: X)) =
    L_ref16_Machine_Head_0 (A ++ (.box [.sl (De.css env), .int .i64 n, .int .i64 e] :: X)) (A ++ (.box [.sl (De.css env), .int .i64 n, .int .i64 e] :: X)) (.ptr A.length 0) t.cs [.int .i64 0, .int .i64 0, .sl [], .sl []] := by
  rw [f_ref16_Machine_Head]
  simp only [↓reduceIte, go_sem]
@[go_sem] theorem toNat_two : Int.toNat 2 = 2 := rfl
theorem head16_ok (env : List De) (hE : okDs env) {n : Nat} {t t' : Te} {n' : Nat} (h : Hd env n t t' n') : t.ok → n ≤ 1000000 → ∀ (A X : List AO) (n0 e0 : Int),
    L_ref16_Machine_Head_0 (A ++ (.box [.sl (De.css env), .int .i64 n0, .int .i64 e0] :: X)) (A ++ (.box [.sl (De.css env), .int .i64 n, .int .i64 0] :: X)) (.ptr A.length 0) t.cs [.int .i64 0, .int .i64 0, .sl [], .sl []] =
    some (.ret (.agg t'.cs), A ++ (.box [.sl (De.css env), .int .i64 n', .int .i64 0] :: X)) := by
  have hf0 := fun (A X : List AO) (o o' : AO) r (ho : LtO (A.length + (X.length + 1)) o') => fin1F_mid0 (A := A) (X := X) (o := o) (o' := o') (r := r) ho
  induction h with
  | @stuck n k N ls ks h4 h7 h3 =>
    intro ht hn A X n0 e0
    have hu := fun A X => unfolds_ok env n 0 k N ls ks (fun h => (h3 h).1) A X
    have hfl : (decide (k = 3) && (unfD env N ls).isSome) = false := by
      by_cases h : k = 3
      · rw [(h3 h).2]; simp
      · simp [h]
    rw [hfl] at hu
    rw [L_ref16_Machine_Head_0, awL_eq]
    simp only [↓reduceIte, go_sem, Te.cs, h7, h4, hu, hf0, mB_lt]
  | @lett n N ls s v b r t' n' ho hd ih =>
    intro ht hn A X n0 e0
    have hb := ht.all b (by simp)
    have hv := ht.all v (by simp)
    have := ih (OpenS_ok' ho hb hv) (by omega) A X n0 e0
    have hO := fun H => Open13_ok b v hb hv H
    simp only [ho, resT] at hO
    have hB := Burn16_ok env ((n + 1 : Nat) : Int) (by omega) A X
    rw [if_neg (by omega), show (((n + 1 : Nat) : Int) - 1) = n by omega] at hB
    rw [L_ref16_Machine_Head_0, awL_eq]
    simp only [↓reduceIte, go_sem, Te.cs, Te.css, hB, hO, Put16_ok, this]
  | @const n N ls ks d r t' n' hN hu hs hd ih =>
    intro ht hn A X n0 e0
    have hm := unfD_mem hu
    have hU := fun A X => unfolds_ok env ((n + 1 : Nat) : Int) 0 3 N ls ks (fun _ => hN) A X
    rw [hu] at hU
    have := ih (const_ok hE ht hu hs) (by omega) A X n0 e0
    have hS := fun H => TSub15_ok d.value ls [] (hE.2 d (List.mem_of_getElem? hm.1)).2.2.2 ht.all2 okLs_nil ht.len2 (by simp) H
    simp only [hs, resT, Lv.css] at hS
    have hB := Burn16_ok env ((n + 1 : Nat) : Int) (by omega) A X
    rw [if_neg (by omega), show (((n + 1 : Nat) : Int) - 1) = n by omega] at hB
    rw [L_ref16_Machine_Head_0, awL_eq]
    simp only [↓reduceIte, go_sem, Te.cs, Te.css, hU, hB, hN, hm.1, hS, Put16_ok, this, decide_true, Bool.true_and, Option.isSome_some]
  | @app n N ls f a f' n' hd hk ih =>
    intro ht hn A X n0 e0
    have hf := ht.all f (by simp)
    have := ih hf hn A X n 0
    rw [← Head16_L] at this
    have hU := fun A X => unfolds_ok env n 0 4 N ls [f, a] (fun h => absurd h (by decide)) A X
    simp only [Te.css, show decide ((4 : Int) = 3) = false from rfl, Bool.false_and] at hU
    cases f' with
    | mk k2 n2 ls2 ks2 =>
    have hk2 : ¬ k2 = 5 := hk
    simp only [Te.cs] at this
    rw [L_ref16_Machine_Head_0, awL_eq]
    simp only [↓reduceIte, go_sem, Te.cs, Te.css, Lv.css, hU, this, hk2, hf0, mB_lt]
  | @beta n N ls f a N2 ls2 s b m r t' n' hd ho hd2 ih1 ih2 =>
    intro ht hn A X n0 e0
    have hf := ht.all f (by simp)
    have ha := ht.all a (by simp)
    have hl := hd.ok hE hf
    have hle := hd.le
    have hb := hl.all b (by simp)
    have := ih1 hf hn A X n 0
    rw [← Head16_L] at this
    have h2 := ih2 (OpenS_ok' ho hb ha) (by omega) A X n0 e0
    have hU := fun A X => unfolds_ok env n 0 4 N ls [f, a] (fun h => absurd h (by decide)) A X
    simp only [Te.css, show decide ((4 : Int) = 3) = false from rfl, Bool.false_and] at hU
    have hO := fun H => Open13_ok b a hb ha H
    simp only [ho, resT] at hO
    have hB := Burn16_ok env ((m + 1 : Nat) : Int) (by omega) A X
    rw [if_neg (by omega), show (((m + 1 : Nat) : Int) - 1) = m by omega] at hB
    simp only [Te.cs, Te.css] at this
    rw [L_ref16_Machine_Head_0, awL_eq]
    simp only [↓reduceIte, go_sem, Te.cs, Te.css, hU, this, hB, hO, Put16_ok, h2]
end Go.Ab
