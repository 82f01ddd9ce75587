/- Part V: one order for all. Conditions: none. -/
import Derived.Test.YtnkblnmcabfbmaaAbsU
set_option linter.unusedVariables false
set_option linter.unusedSimpArgs false
namespace Go.Ab

def indep (i j : AI) : Bool :=
  (match i.d with
   | some d => !(j.reads.contains d) && j.d != some d
   | none => true) &&
  (match j.d with
   | some d => !(i.reads.contains d)
   | none => true) && (!i.alo || i.d.isSome) && (!j.alo || j.d.isSome)
def compat (i j : AI) : Bool :=
  i.cls == 0 || i.cls == 2 || (i.cls == 3 && (j.cls == 0 || j.cls == 2)) || ((i.cls == 1 || i.cls == 4) && j.cls != 3 && j.cls != 6) || (i.cls == 6 && (j.cls == 0 || j.cls == 2 || j.cls == 5)) || (i.cls == 5 && j.cls != 3)

theorem indep_spec {i j : AI} (h : indep i j = true) : (∀ d, i.d = some d → d ∉ j.reads) ∧ (∀ d, i.d = some d → j.d ≠ some d) ∧ (∀ d, j.d = some d → d ∉ i.reads) ∧ (i.alo = true → ∃ d, i.d = some d) ∧ (j.alo = true → ∃ d, j.d = some d) := by
  unfold indep at h
  simp only [Bool.and_eq_true] at h
  obtain ⟨⟨⟨h1, h2⟩, h3⟩, h4⟩ := h
  refine ⟨fun d hd => ?_, fun d hd => ?_, fun d hd => ?_, fun ha => ?_, fun ha => ?_⟩
  · rw [hd] at h1; simp at h1; exact h1.1
  · rw [hd] at h1; simp at h1; exact h1.2
  · rw [hd] at h2; simpa using h2
  · rw [ha] at h3; cases hd : i.d with
    | none => rw [hd] at h3; simp at h3
    | some d => exact ⟨d, rfl⟩
  · rw [ha] at h4; cases hd : j.d with
    | none => rw [hd] at h4; simp at h4
    | some d => exact ⟨d, rfl⟩

theorem app_tg (σ : St) (d : Option Nat) (r : Rr) (i : Nat) : tg i (σ.app d r).t.l = if d = some i ∧ i < σ.t.n then r.1 else tg i σ.t.l := by
  unfold St.app St.put
  cases d with
  | none => simp
  | some d =>
    try dsimp only
    unfold Ts.set
    try dsimp only
    by_cases hn : d < σ.t.n
    · rw [if_pos hn]
      try dsimp only
      rw [tg_cons]
      by_cases e : d = i
      · subst e; simp [hn]
      · simp [e]
    · rw [if_neg hn]
      rw [if_neg]
      rintro ⟨e, h⟩
      cases e
      exact hn h
theorem app_n (σ : St) (d : Option Nat) (r : Rr) : (σ.app d r).t.n = σ.t.n := by
  unfold St.app St.put
  cases d with
  | none => rfl
  | some d => dsimp only; unfold Ts.set; split <;> rfl
theorem app_ls (σ : St) (d : Option Nat) (r : Rr) : (σ.app d r).ls = ape r.2.1 σ.ls := by unfold St.app St.put; cases d <;> rfl
theorem app_h (σ : St) (d : Option Nat) (r : Rr) : (σ.app d r).h = r.2.2 := by unfold St.app St.put; cases d <;> rfl
theorem app_ds (σ : St) (d : Option Nat) (r : Rr) : (σ.app d r).ds = σ.ds := by unfold St.app St.put; cases d <;> rfl
theorem app_x {σ : St} {d : Option Nat} {r : Rr} {i : AI} (h : ∀ k, d = some k → k ∉ i.reads) : ∀ x ∈ i.xs, (σ.app d r).x x = σ.x x := by
  intro x hx
  cases x with
  | c a => rfl
  | t k =>
    show tg k (σ.app d r).t.l = tg k σ.t.l
    rw [app_tg, if_neg]
    rintro ⟨e, _⟩
    exact h k e (by unfold AI.reads; exact List.mem_flatten.2 ⟨[k], List.mem_map.2 ⟨.t k, hx, rfl⟩, by simp⟩)

theorem live_app {CC : CallP} {i : AI} {σ : St} (hl : LiveS σ) {r : Rr} (ha : actG CC i σ.x (fun k => look k σ.ls) σ.h r) : LiveS (σ.app i.d r) := by
  have mono : ∀ k, look k σ.ls ≠ none → look k (σ.app i.d r).ls ≠ none := fun k hk => by
    rw [app_ls]
    cases he : r.2.1 with
    | none => exact hk
    | some e =>
      obtain ⟨b, m, c⟩ := e
      cases b with
      | true => unfold ape look; split <;> simp_all
      | false => unfold ape; rw [look_put]; split <;> simp_all
  intro m k off h
  rw [app_tg] at h
  split at h
  · rcases act_live ha h with ⟨x, hx, o, e⟩ | ⟨c, e⟩
    · cases x with
      | c a => cases e
      | t q => exact mono k (hl q k o e)
    · rw [app_ls, e]; unfold ape look; simp
  · exact mono k (hl m k off h)

theorem Eqv.refl (σ : St) : Eqv σ σ := ⟨rfl, fun _ => rfl, fun _ => rfl, rfl, rfl⟩
theorem Eqv.trans {a b c : St} (h : Eqv a b) (k : Eqv b c) : Eqv a c := ⟨h.n.trans k.n, fun i => (h.t i).trans (k.t i), fun i => (h.ls i).trans (k.ls i), h.h.trans k.h, h.ds.trans k.ds⟩
theorem Eqv.symm {a b : St} (h : Eqv a b) : Eqv b a := ⟨h.n.symm, fun i => (h.t i).symm, fun i => (h.ls i).symm, h.h.symm, h.ds.symm⟩
theorem Eqv.x {a b : St} (h : Eqv a b) : a.x = b.x := by
  funext x
  cases x with
  | t i => exact h.t i
  | c a => rfl
theorem ape_look {e : Option (Bool × Nat × List AV)} {a b : List (Nat × List AV)} (h : ∀ k, look k a = look k b) (k : Nat) : look k (ape e a) = look k (ape e b) := by
  cases e with
  | none => exact h k
  | some e =>
    obtain ⟨t, m, c⟩ := e
    cases t with
    | true => unfold ape look; split <;> first | rfl | exact h k
    | false => unfold ape; rw [look_put, look_put, h k]
theorem Eqv.app {a b : St} (h : Eqv a b) (d : Option Nat) (r : Rr) : Eqv (a.app d r) (b.app d r) :=
  ⟨by rw [app_n, app_n, h.n], fun i => by rw [app_tg, app_tg, h.t, h.n], fun k => by rw [app_ls, app_ls]; exact ape_look h.ls k, by rw [app_h, app_h], by rw [app_ds, app_ds, h.ds]⟩
theorem stepG_eqv {CC : CallP} {i : AI} {σ τ σ' : St} (h : stepG CC i σ σ') (e : Eqv σ τ) : ∃ τ', stepG CC i τ τ' ∧ Eqv σ' τ' := by
  obtain ⟨r, h1, rfl⟩ := stepG_iff.1 h
  refine ⟨τ.app i.d r, stepG_iff.2 ⟨r, ?_, rfl⟩, e.app i.d r⟩
  have el : (fun k => look k σ.ls) = fun k => look k τ.ls := funext e.ls
  rw [← e.x, ← el, ← e.h]
  exact h1

theorem put_none {k d : Nat} {c : List AV} {ls : List (Nat × List AV)} (h : look d ls = none) : look d (put k c ls) = none := by rw [look_put]; split <;> simp [h]

/-- Two operations change places. -/
theorem diamond {CC : CallP} {i j : AI} {σ : St} (hl : LiveS σ) (hi : indep i j = true) (hc : compat i j = true) {ri rj : Rr} (ai : actG CC i σ.x (fun k => look k σ.ls) σ.h ri)
    (aj : actG CC j (σ.app i.d ri).x (fun k => look k (σ.app i.d ri).ls) (σ.app i.d ri).h rj) :
    ∃ rj' ri', actG CC j σ.x (fun k => look k σ.ls) σ.h rj' ∧ actG CC i (σ.app j.d rj').x (fun k => look k (σ.app j.d rj').ls) (σ.app j.d rj').h ri' ∧ Eqv ((σ.app i.d ri).app j.d rj) ((σ.app j.d rj').app i.d ri') := by
  obtain ⟨s1, s2, s3, s4, s5⟩ := indep_spec hi
  have hcc : i.cls = 0 ∨ i.cls = 2 ∨ (i.cls = 3 ∧ (j.cls = 0 ∨ j.cls = 2)) ∨ ((i.cls = 1 ∨ i.cls = 4) ∧ j.cls ≠ 3 ∧ j.cls ≠ 6) ∨ (i.cls = 6 ∧ (j.cls = 0 ∨ j.cls = 2 ∨ j.cls = 5)) ∨ (i.cls = 5 ∧ j.cls ≠ 3) := by
    unfold compat at hc; simpa [or_assoc, and_assoc] using hc
  have alo_key : ∀ x y : AI, x.alo = true → y.alo = true → (∃ d, x.d = some d) → (∃ d, y.d = some d) → (∀ d, x.d = some d → y.d ≠ some d) → x.d.getD 0 ≠ y.d.getD 0 := by
    rintro x y _ _ ⟨d, hd⟩ ⟨e, he⟩ hne
    rw [hd, he]
    intro h
    exact hne d hd (by rw [he]; simpa using h.symm)
  have xj : ∀ x ∈ j.xs, (σ.app i.d ri).x x = σ.x x := app_x s1
  -- j ahead of i
  have shi := act_shape ai
  have hj : ∃ r', actG CC j σ.x (fun k => look k σ.ls) σ.h r' ∧ r'.1 = rj.1 ∧ r'.2.1 = rj.2.1 ∧ (σ.h = (σ.app i.d ri).h → r'.2.2 = rj.2.2) ∧ (j.cls = 0 ∨ j.cls = 2 ∨ j.cls = 5 → r'.2.2 = σ.h) := by
    refine act_tr aj xj ?_ ?_
    · by_cases hi3 : i.cls = 3
      · rcases hcc with k | k | ⟨_, k | k⟩ | ⟨k, _⟩ | ⟨k, _⟩ | ⟨k, _⟩
        · omega
        · omega
        · exact .inl k
        · refine .inr (.inl ⟨k, fun hn => ?_⟩)
          try dsimp only at hn ⊢
          rw [app_ls] at hn
          rcases shi with e | ⟨m, c, e, _⟩ | ⟨c, e, e2, e3⟩
          · rw [e] at hn; exact hn
          · rw [e] at hn
            unfold ape at hn
            rw [look_put] at hn
            split at hn
            · cases hq : look (j.d.getD 0) σ.ls with
              | none => rfl
              | some _ => rw [hq] at hn; cases hn
            · exact hn
          · rw [e] at hn
            unfold ape look at hn
            split at hn
            · cases hn
            · exact hn
        · omega
        · omega
        · omega
      · have e1 : ri.2.1 = none ∨ ∃ c, ri.2.1 = some (true, i.d.getD 0, c) ∧ look (i.d.getD 0) σ.ls = none ∧ i.alo = true := by
          rcases shi with e | ⟨m, c, e, _, k⟩ | k
          · exact .inl e
          · exact absurd k hi3
          · exact .inr k
        refine .inr (.inr ⟨fun ha => ?_, fun x hx k off hk => ?_⟩)
        · try dsimp only
          rw [app_ls]
          rcases e1 with e | ⟨c, e, e2, e3⟩
          · rw [e]; rfl
          · rw [e]
            unfold ape
            rw [look, if_neg (alo_key i j e3 ha (s4 e3) (s5 ha) s2)]
        · try dsimp only
          rw [app_ls]
          rw [xj x hx] at hk
          rcases e1 with e | ⟨c, e, e2, e3⟩
          · rw [e]; rfl
          · rw [e]
            unfold ape
            have : look k σ.ls ≠ none := by
              cases x with
              | c a => cases hk
              | t q => exact hl q k off hk
            rw [look, if_neg (by rintro rfl; exact this e2)]
    · rcases hcc with k | k | ⟨_, k | k⟩ | ⟨k, _⟩ | ⟨_, k | k | k⟩ | ⟨k, _⟩
      · exact .inl (by rw [app_h, act_keep ai (by omega)])
      · exact .inl (by rw [app_h, act_keep ai (by omega)])
      · exact .inr (.inl k)
      · exact .inr (.inr (.inl k))
      · exact .inl (by rw [app_h, act_keep ai (by omega)])
      · exact .inr (.inl k)
      · exact .inr (.inr (.inl k))
      · exact .inr (.inr (.inr k))
      · exact .inl (by rw [app_h, act_keep ai (by omega)])
  obtain ⟨rj', bj, j1, j2, j3, j4⟩ := hj
  have shj := act_shape bj
  have xi : ∀ x ∈ i.xs, σ.x x = (σ.app j.d rj').x x := fun x hx => (app_x s3 x hx).symm
  have hi' : ∃ r', actG CC i (σ.app j.d rj').x (fun k => look k (σ.app j.d rj').ls) (σ.app j.d rj').h r' ∧ r'.1 = ri.1 ∧ r'.2.1 = ri.2.1 ∧ ((σ.app j.d rj').h = σ.h → r'.2.2 = ri.2.2) ∧ (i.cls = 0 ∨ i.cls = 2 ∨ i.cls = 5 → r'.2.2 = (σ.app j.d rj').h) := by
    refine act_tr ai xi ?_ ?_
    · by_cases hi0 : i.cls = 0
      · exact .inl hi0
      by_cases hi2 : i.cls = 2
      · refine .inr (.inl ⟨hi2, fun hn => ?_⟩)
        try dsimp only at hn ⊢
        rw [app_ls]
        rcases shj with e | ⟨m, c, e, _⟩ | ⟨c, e, e2, e3⟩
        · rw [e]; exact hn
        · rw [e]; exact put_none hn
        · rw [e]
          unfold ape
          have halo : i.alo = true := by
            unfold AI.cls at hi2; unfold AI.alo
            cases hk : i.k with
            | o op => rw [hk] at hi2; dsimp only at hi2 ⊢; cases op <;> simp [AOp.cls, AOp.alo] at hi2 ⊢
            | _ => rw [hk] at hi2; cases hi2
          rw [look, if_neg (fun h => alo_key i j halo e3 (s4 halo) (s5 e3) s2 h.symm)]
          exact hn
      · have hj3 : j.cls ≠ 3 := by
          rcases hcc with k | k | ⟨_, k | k⟩ | ⟨_, k, _⟩ | ⟨_, k | k | k⟩ | ⟨_, k⟩
          · exact absurd k hi0
          · exact absurd k hi2
          · omega
          · omega
          · exact k
          · omega
          · omega
          · omega
          · exact k
        refine .inr (.inr ⟨fun ha => ?_, fun x hx k off hk => ?_⟩)
        · try dsimp only
          rw [app_ls]
          rcases shj with e | ⟨m, c, e, _, k⟩ | ⟨c, e, e2, e3⟩
          · rw [e]; rfl
          · exact absurd k hj3
          · rw [e]; unfold ape; rw [look, if_neg (fun h => alo_key i j ha e3 (s4 ha) (s5 e3) s2 h.symm)]
        · try dsimp only
          rw [app_ls]
          rcases shj with e | ⟨m, c, e, _, k'⟩ | ⟨c, e, e2, e3⟩
          · rw [e]; rfl
          · exact absurd k' hj3
          · rw [e]
            unfold ape
            have : look k σ.ls ≠ none := by
              cases x with
              | c a => cases hk
              | t q => exact hl q k off hk
            rw [look, if_neg (by rintro rfl; exact this e2)]
    · rcases hcc with k | k | ⟨_, k | k⟩ | ⟨_, k⟩ | ⟨_, k | k | k⟩ | ⟨k, _⟩
      · exact .inr (.inl k)
      · exact .inr (.inr (.inl k))
      · exact .inl (by rw [app_h, act_keep bj (by omega)])
      · exact .inl (by rw [app_h, act_keep bj (by omega)])
      · exact .inl (by rw [app_h, act_keep bj k])
      · exact .inl (by rw [app_h, act_keep bj (by omega)])
      · exact .inl (by rw [app_h, act_keep bj (by omega)])
      · exact .inl (by rw [app_h, act_keep bj (by omega)])
      · exact .inr (.inr (.inr k))
  obtain ⟨ri', bi, i1, i2, i3, i4⟩ := hi'
  refine ⟨rj', ri', bj, bi, ?_, fun m => ?_, fun k => ?_, ?_, by simp only [app_ds]⟩
  · simp only [app_n]
  · simp only [app_tg, app_n, j1, i1]
    by_cases h1 : j.d = some m ∧ m < σ.t.n
    · rw [if_pos h1, if_pos h1, if_neg]
      rintro ⟨h2, _⟩
      exact s2 m h2 h1.1
    · rw [if_neg h1, if_neg h1]
  · simp only [app_ls, j2, i2]
    rcases shi with e | ⟨m, c, e, e2, e3⟩ | ⟨c, e, e2, e3⟩
    · rw [e]; rfl
    · rw [e]
      rcases shj with f | ⟨m', c', f, f2, f3⟩ | ⟨c', f, f2, f3⟩
      · rw [← j2, f]; rfl
      · omega
      · rw [← j2, f]
        unfold ape
        rw [look, look_put, look_put, look]
        by_cases h1 : j.d.getD 0 = k
        · rw [if_pos h1, if_pos h1]
          rw [if_neg (by rintro rfl; rw [← h1] at e2; exact e2 f2)]
        · rw [if_neg h1, if_neg h1]
    · rw [e]
      rcases shj with f | ⟨m', c', f, f2, f3⟩ | ⟨c', f, f2, f3⟩
      · rw [← j2, f]; rfl
      · rw [← j2, f]
        unfold ape
        rw [look, look_put, look_put, look]
        by_cases h1 : i.d.getD 0 = k
        · rw [if_pos h1, if_pos h1]
          rw [if_neg (by rintro rfl; rw [← h1] at f2; exact f2 e2)]
        · rw [if_neg h1, if_neg h1]
      · rw [← j2, f]
        unfold ape
        have hne := alo_key i j e3 f3 (s4 e3) (s5 f3) s2
        rw [look, look, look, look]
        by_cases h1 : i.d.getD 0 = k
        · rw [if_neg (by omega), if_pos h1, if_pos h1]
        · rw [if_neg h1, if_neg h1]
  · simp only [app_h]
    rcases hcc with k | k | ⟨k0, k | k⟩ | ⟨k, k0⟩ | ⟨k0, k | k | k⟩ | ⟨k, k0⟩
    · rw [i4 (.inl k), app_h]
      exact (j3 (by rw [app_h, act_keep ai (by omega)])).symm
    · rw [i4 (.inr (.inl k)), app_h]
      exact (j3 (by rw [app_h, act_keep ai (by omega)])).symm
    · rw [i3 (by rw [app_h]; exact j4 (.inl k)), act_keep aj (by omega), app_h]
    · rw [i3 (by rw [app_h]; exact j4 (.inr (.inl k))), act_keep aj (by omega), app_h]
    · rw [act_keep aj k0, app_h, i3 (by rw [app_h, act_keep bj k0])]
    · rw [i3 (by rw [app_h]; exact j4 (.inl k)), act_keep aj (by omega), app_h]
    · rw [i3 (by rw [app_h]; exact j4 (.inr (.inl k))), act_keep aj (by omega), app_h]
    · rw [i3 (by rw [app_h]; exact j4 (.inr (.inr k))), act_keep aj (by omega), app_h]
    · rw [i4 (.inr (.inr k)), app_h]
      exact (j3 (by rw [app_h, act_keep ai (by omega)])).symm
end Go.Ab
