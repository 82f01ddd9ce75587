/- What a term comes to: errors; the document's answer. Conditions: none. -/
import Derived.Test.YtgcegmmobpibbaaGreatUb
set_option linter.unusedVariables false
set_option linter.unusedSimpArgs false
set_option maxRecDepth 100000
set_option maxHeartbeats 2000000
namespace Go.Ab
open Go.RowKit Go.Proofs

theorem head16_er (env : List De) (hE : okDs env) {n : Nat} {t : Te} {n' : Nat} {e : Int} (h : He env n t n' e) : t.ok → n ≤ 1000000 → ∀ (A X : List AO) (n0 e0 : Int), ∃ x : Te, x.ok ∧
    L_ref16_Machine_Head_0 (A ++ (.box [.sl (De.css env), .int .i64 n0, .int .i64 e0] :: X)) (A ++ (.box [.sl (De.css env), .int .i64 n, .int .i64 0] :: X)) (.ptr A.length 0) t.cs [.int .i64 0, .int .i64 0, .sl [], .sl []] =
    some (.ret (.agg x.cs), A ++ (.box [.sl (De.css env), .int .i64 n', .int .i64 e] :: X)) := by
  have hf0 := fun (A X : List AO) (o o' : AO) r (ho : LtO (A.length + (X.length + 1)) o') => fin1F_mid0 (A := A) (X := X) (o := o) (o' := o') (r := r) ho
  induction h with
  | @let0 N ls s v b =>
    intro ht hn A X n0 e0
    have hB := Burn16_ok env 0 (by omega) A X
    rw [if_pos rfl] at hB
    have hi := fun x => head16_in env x 0 40 A X (by decide) n0 e0 _ rfl
    refine ⟨_, ht, ?_⟩
    rw [L_ref16_Machine_Head_0, awL_eq]
    have := hi (.mk 7 N ls [s, v, b])
    simp only [Te.cs, Te.css] at this
    simp only [↓reduceIte, go_sem, Te.cs, Te.css, hB, this]
  | @let2 n N ls s v b r e ho he =>
    intro ht hn A X n0 e0
    have hb := ht.all b (by simp)
    have hv := ht.all v (by simp)
    have hO := fun H => Open13_ok b v hb hv H
    simp only [ho, resT] at hO
    have hB := Burn16_ok env ((n + 1 : Nat) : Int) (by omega) A X
    rw [if_neg (by omega), show (((n + 1 : Nat) : Int) - 1) = n by omega] at hB
    have hi := head16_in env r n e A X he n0 e0 _ rfl
    refine ⟨r, OpenS_ok' ho hb hv, ?_⟩
    rw [L_ref16_Machine_Head_0, awL_eq]
    simp only [↓reduceIte, go_sem, Te.cs, Te.css, hB, hO, Put16_ok, hi]
  | @letr n N ls s v b r n' e ho hd ih =>
    intro ht hn A X n0 e0
    have hb := ht.all b (by simp)
    have hv := ht.all v (by simp)
    obtain ⟨x, hx, this⟩ := ih (OpenS_ok' ho hb hv) (by omega) A X n0 e0
    have hO := fun H => Open13_ok b v hb hv H
    simp only [ho, resT] at hO
    have hB := Burn16_ok env ((n + 1 : Nat) : Int) (by omega) A X
    rw [if_neg (by omega), show (((n + 1 : Nat) : Int) - 1) = n by omega] at hB
    refine ⟨x, hx, ?_⟩
    rw [L_ref16_Machine_Head_0, awL_eq]
    simp only [↓reduceIte, go_sem, Te.cs, Te.css, hB, hO, Put16_ok, this]
  | @const0 N ls ks d hN hu =>
    intro ht hn A X n0 e0
    have hm := unfD_mem hu
    have hU := fun A X => unfolds_ok env 0 0 3 N ls ks (fun _ => hN) A X
    rw [hu] at hU
    have hB := Burn16_ok env 0 (by omega) A X
    rw [if_pos rfl] at hB
    have hi := head16_in env (.mk 3 N ls ks) 0 40 A X (by decide) n0 e0 _ rfl
    simp only [Te.cs] at hi
    refine ⟨_, ht, ?_⟩
    rw [L_ref16_Machine_Head_0, awL_eq]
    simp only [↓reduceIte, go_sem, Te.cs, Te.css, hU, hB, hN, hm.1, hi, decide_true, Bool.true_and, Option.isSome_some]
  | @const2 n N ls ks d r e hN hu hs he =>
    intro ht hn A X n0 e0
    have hm := unfD_mem hu
    have hU := fun A X => unfolds_ok env ((n + 1 : Nat) : Int) 0 3 N ls ks (fun _ => hN) A X
    rw [hu] at hU
    have hS := fun H => TSub15_ok d.value ls [] (hE.2 d (List.mem_of_getElem? hm.1)).2.2.2 ht.all2 okLs_nil ht.len2 (by simp) H
    simp only [hs, resT, Lv.css] at hS
    have hB := Burn16_ok env ((n + 1 : Nat) : Int) (by omega) A X
    rw [if_neg (by omega), show (((n + 1 : Nat) : Int) - 1) = n by omega] at hB
    have hi := head16_in env r n e A X he n0 e0 _ rfl
    refine ⟨r, const_ok hE ht hu hs, ?_⟩
    rw [L_ref16_Machine_Head_0, awL_eq]
    simp only [↓reduceIte, go_sem, Te.cs, Te.css, hU, hB, hN, hm.1, hS, Put16_ok, hi, decide_true, Bool.true_and, Option.isSome_some]
  | @constr n N ls ks d r n' e hN hu hs hd ih =>
    intro ht hn A X n0 e0
    have hm := unfD_mem hu
    have hU := fun A X => unfolds_ok env ((n + 1 : Nat) : Int) 0 3 N ls ks (fun _ => hN) A X
    rw [hu] at hU
    obtain ⟨x, hx, this⟩ := ih (const_ok hE ht hu hs) (by omega) A X n0 e0
    have hS := fun H => TSub15_ok d.value ls [] (hE.2 d (List.mem_of_getElem? hm.1)).2.2.2 ht.all2 okLs_nil ht.len2 (by simp) H
    simp only [hs, resT, Lv.css] at hS
    have hB := Burn16_ok env ((n + 1 : Nat) : Int) (by omega) A X
    rw [if_neg (by omega), show (((n + 1 : Nat) : Int) - 1) = n by omega] at hB
    refine ⟨x, hx, ?_⟩
    rw [L_ref16_Machine_Head_0, awL_eq]
    simp only [↓reduceIte, go_sem, Te.cs, Te.css, hU, hB, hN, hm.1, hS, Put16_ok, this, decide_true, Bool.true_and, Option.isSome_some]
  | @appf n N ls f a n' e hd ih =>
    intro ht hn A X n0 e0
    have hf := ht.all f (by simp)
    have ha := ht.all a (by simp)
    have hne := hd.ne
    obtain ⟨x, hx, this⟩ := ih hf hn A X n 0
    rw [← Head16_L] at this
    have hU := fun A X => unfolds_ok env n 0 4 N ls [f, a] (fun h => absurd h (by decide)) A X
    simp only [Te.css, show decide ((4 : Int) = 3) = false from rfl, Bool.false_and] at hU
    refine ⟨.mk 4 0 [] [x, a], .mk (by simp) (by simp) (by intro x hx; cases hx) (by intro y hy; simp at hy; rcases hy with rfl | rfl <;> assumption), ?_⟩
    cases x with
    | mk k2 n2 ls2 ks2 =>
    simp only [Te.cs] at this
    rw [L_ref16_Machine_Head_0, awL_eq]
    simp only [↓reduceIte, go_sem, Te.cs, Te.css, Lv.css, hU, this, hne, hf0, mB_lt]
  | @beta0 n N ls f a N2 ls2 s b hd =>
    intro ht hn A X n0 e0
    have hf := ht.all f (by simp)
    have ha := ht.all a (by simp)
    have := head16_ok env hE hd hf hn A X n 0
    rw [← Head16_L] at this
    have hU := fun A X => unfolds_ok env n 0 4 N ls [f, a] (fun h => absurd h (by decide)) A X
    simp only [Te.css, show decide ((4 : Int) = 3) = false from rfl, Bool.false_and] at hU
    have hB := Burn16_ok env 0 (by omega) A X
    rw [if_pos rfl] at hB
    have hi := head16_in env (.mk 4 N ls [f, a]) 0 40 A X (by decide) n0 e0 _ rfl
    simp only [Te.cs, Te.css] at hi
    refine ⟨_, ht, ?_⟩
    simp only [Te.cs, Te.css, Int.natCast_zero] at this
    rw [L_ref16_Machine_Head_0, awL_eq]
    simp only [↓reduceIte, go_sem, Te.cs, Te.css, hU, this, hB, hi]
  | @beta2 n N ls f a N2 ls2 s b m r e hd ho he =>
    intro ht hn A X n0 e0
    have hf := ht.all f (by simp)
    have ha := ht.all a (by simp)
    have hl := hd.ok hE hf
    have hle := hd.le
    have hb := hl.all b (by simp)
    have := head16_ok env hE hd hf hn A X n 0
    rw [← Head16_L] at this
    have hU := fun A X => unfolds_ok env n 0 4 N ls [f, a] (fun h => absurd h (by decide)) A X
    simp only [Te.css, show decide ((4 : Int) = 3) = false from rfl, Bool.false_and] at hU
    have hO := fun H => Open13_ok b a hb ha H
    simp only [ho, resT] at hO
    have hB := Burn16_ok env ((m + 1 : Nat) : Int) (by omega) A X
    rw [if_neg (by omega), show (((m + 1 : Nat) : Int) - 1) = m by omega] at hB
    have hi := head16_in env r m e A X he n0 e0 _ rfl
    refine ⟨r, OpenS_ok' ho hb ha, ?_⟩
    simp only [Te.cs, Te.css] at this
    rw [L_ref16_Machine_Head_0, awL_eq]
    simp only [↓reduceIte, go_sem, Te.cs, Te.css, hU, this, hB, hO, Put16_ok, hi]
  | @betar n N ls f a N2 ls2 s b m r n' e hd ho hd2 ih2 =>
    intro ht hn A X n0 e0
    have hf := ht.all f (by simp)
    have ha := ht.all a (by simp)
    have hl := hd.ok hE hf
    have hle := hd.le
    have hb := hl.all b (by simp)
    have := head16_ok env hE hd hf hn A X n 0
    rw [← Head16_L] at this
    obtain ⟨x, hx, h2⟩ := ih2 (OpenS_ok' ho hb ha) (by omega) A X n0 e0
    have hU := fun A X => unfolds_ok env n 0 4 N ls [f, a] (fun h => absurd h (by decide)) A X
    simp only [Te.css, show decide ((4 : Int) = 3) = false from rfl, Bool.false_and] at hU
    have hO := fun H => Open13_ok b a hb ha H
    simp only [ho, resT] at hO
    have hB := Burn16_ok env ((m + 1 : Nat) : Int) (by omega) A X
    rw [if_neg (by omega), show (((m + 1 : Nat) : Int) - 1) = m by omega] at hB
    refine ⟨x, hx, ?_⟩
    simp only [Te.cs, Te.css] at this
    rw [L_ref16_Machine_Head_0, awL_eq]
    simp only [↓reduceIte, go_sem, Te.cs, Te.css, hU, this, hB, hO, Put16_ok, h2]
end Go.Ab
