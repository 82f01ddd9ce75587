/- Layer 16: the statements ReduceAny, ReduceLoop. Conditions: none. -/
import Derived.Test.YtgcegmmobpibbaaGreatUj
set_option linter.unusedVariables false
set_option linter.unusedSimpArgs false
set_option maxRecDepth 100000
set_option maxHeartbeats 2000000
namespace Go.Ab
open Go.RowKit Go.Proofs

theorem ReduceAny_ok (env : List De) (hE : okDs env) (t : Te) (ht : t.ok) (f : Int) (H : List AO) : F law16_ReduceAny [.sl (De.css env), .agg t.cs, .int .i64 f] H = some (.ret (.bool true), H) := by
  have hs := fun f H => same16_ok env hE t ht f H
  have hp := fun H => parts13_ok t ht 301 (by omega) H
  have hp1 := parts_ge t 301
  have hp2 := parts_le t 301
  obtain ⟨hlen, hd⟩ := hE
  rcases t with ⟨k, N, ls, ks⟩
  simp only [Te.cs] at hs hp
  have loop : ∀ (suf pre : List De) (n : Int), env = pre ++ suf → 0 ≤ n ∧ n ≤ 1000 →
      L_law16_ReduceAny_0 H H (.sl (De.css env)) (.int .i64 f) (.int .i64 n) (.int .i64 pre.length) (Te.mk k N ls ks).cs = some (.ret (.bool true), H) := by
    intro suf
    have fin : ∀ (pre : List De) (n : Int), 0 ≤ n ∧ n ≤ 1000 → (¬ (pre.length : Int) < env.length ∨ ¬ n ≤ 300) →
        L_law16_ReduceAny_0 H H (.sl (De.css env)) (.int .i64 f) (.int .i64 n) (.int .i64 pre.length) (Te.mk k N ls ks).cs = some (.ret (.bool true), H) := by
      intro pre n hn h
      rw [L_law16_ReduceAny_0, awL_eq]
      have h7 : (¬ (100 : Int) < f) ∨ ((100 : Int) < f ∧ f ≤ 5000) ∨ ((100 : Int) < f ∧ ¬ f ≤ 5000) := by omega
      have h8 : (¬ (pre.length : Int) < env.length ∧ (300 : Int) < n) ∨ ((pre.length : Int) < env.length ∧ (300 : Int) < n ∧ ¬ n ≤ 300) ∨ (¬ (pre.length : Int) < env.length ∧ ¬ (300 : Int) < n ∧ (25 : Int) < env.length) ∨ (¬ (pre.length : Int) < env.length ∧ ¬ (300 : Int) < n ∧ ¬ (25 : Int) < env.length) := by omega
      rcases h7 with h1 | ⟨h1, h2⟩ | ⟨h1, h2⟩ <;> rcases h8 with ⟨h3, h4⟩ | ⟨h3, h4, h5⟩ | ⟨h3, h4, h5⟩ | ⟨h3, h4, h5⟩ <;>
        simp only [↓reduceIte, go_sem, Te.cs, *, awake16_ok]
    induction suf with
    | nil =>
      intro pre n e hn
      exact fin pre n hn (.inl (by rw [e]; simp))
    | cons x suf ih =>
      intro pre n e hn
      by_cases h3 : n ≤ 300
      · obtain ⟨_, _, ha, hb⟩ := hd x (by rw [e]; simp)
        have q1 := fun H => parts13_ok x.type ha 301 (by omega) H
        have q2 := fun H => parts13_ok x.value hb 301 (by omega) H
        have b1 := parts_ge x.type 301
        have b2 := parts_le x.type 301
        have b3 := parts_ge x.value 301
        have b4 := parts_le x.value 301
        have hg : env[pre.length]? = some x := by rw [e]; simp
        have hl : (pre.length : Int) < env.length := by rw [e]; simp; omega
        have := ih (pre ++ [x]) (n + parts x.type 301 + parts x.value 301) (by rw [e]; simp) (by omega)
        simp only [len_app, Te.cs] at this
        rw [L_law16_ReduceAny_0, awL_eq]
        simp only [↓reduceIte, go_sem, Te.cs, h3, hl, hg, q1, q2, wrap64 (n := n + parts x.type 301) (by omega) (by omega), wrap64 (n := n + parts x.type 301 + parts x.value 301) (by omega) (by omega), nat_wrap (n := pre.length) (by omega), this]
      · exact fin pre n hn (.inr h3)
  have := loop env [] (parts (.mk k N ls ks) 301) rfl (by omega)
  simp only [List.length_nil, Int.natCast_zero, Te.cs] at this
  rw [f_law16_ReduceAny]
  simp only [↓reduceIte, go_sem, Te.cs, hp, this]
theorem loop_loop (f deep : Int) (hf : 0 ≤ f ∧ f < 256) (hd : 0 ≤ deep ∧ deep < 256) (H : List AO) : ∀ (m i : Nat) (t : Te), t.ok → (i : Int) + m = deep.tmod 6 →
    L_law16_ReduceLoop_0 H H (.int .u8 f) (.int .u8 deep) (.fn (.func law13_Bind) [] []) (.int .i64 i) [.int .i64 2, .int .i64 0, .sl [[.int .i64 1, .int .i64 0, .sl []]], .sl []] t.cs = some (.ret (.bool true), H) := by
  have h6 : deep.tmod 6 < 6 := Int.tmod_lt_of_pos _ (by decide)
  intro m
  induction m with
  | zero =>
    intro i t ht hi
    have hs := fun H => same16_ok [] okDs_nil t ht (f.tmod 201) H
    have hn : ¬ (i : Int) < deep.tmod 6 := by omega
    rcases t with ⟨k, N, ls, ks⟩
    simp only [Te.cs, De.css, List.map_nil] at hs
    rw [L_law16_ReduceLoop_0, awL_eq]
    simp only [↓reduceIte, go_sem, Te.cs, hn, awake16_ok, wrap64 (n := f) (by omega) (by omega), wrap64 (n := deep) (by omega) (by omega), hs]
  | succ m ih =>
    intro i t ht hi
    have hn : (i : Int) < deep.tmod 6 := by omega
    have hB := fun H => Bind13_ok 4 [t, sort0] H
    have := ih (i + 1) (.mk 4 0 [] [t, sort0]) (by
      refine .mk (by simp) (by simp) (by intro x hx; cases hx) ?_
      intro x hx
      simp at hx
      rcases hx with rfl | rfl
      · exact ht
      · exact sort0_ok) (by omega)
    rcases t with ⟨k, N, ls, ks⟩
    simp only [Te.cs, Te.css, Lv.cs, Lv.css, sort0, Int.natCast_add, Int.natCast_one] at hB this
    rw [L_law16_ReduceLoop_0, awL_eq]
    simp only [↓reduceIte, go_sem, Te.cs, hn, cfl_f0, hB, wrap64 (n := deep) (by omega) (by omega), nat_wrap (n := i) (by omega), this]
theorem ReduceLoop_ok (f how deep : Int) (hf : 0 ≤ f ∧ f < 256) (hh : 0 ≤ how ∧ how < 256) (hd : 0 ≤ deep ∧ deep < 256) (H : List AO) :
    F law16_ReduceLoop [.int .u8 f, .int .u8 how, .int .u8 deep] H = some (.ret (.bool true), H) := by
  have hV0 := fun H => Var13_ok 0 H
  have hV1 := fun H => Var13_ok 1 H
  have hS0 := fun H => Sort13_ok (.mk 1 0 []) H
  have hB := fun k ks H => Bind13_ok k ks H
  have key : ∀ (b : Te) (hb : b.ok) H, L_law16_ReduceLoop_0 H H (.int .u8 f) (.int .u8 deep) (.fn (.func law13_Bind) [] []) (.int .i64 0) [.int .i64 2, .int .i64 0, .sl [[.int .i64 1, .int .i64 0, .sl []]], .sl []] (Te.mk 4 0 [] [.mk 5 0 [] [sort0, b], .mk 5 0 [] [sort0, b]]).cs = some (.ret (.bool true), H) := by
    intro b hb H
    have h6 : 0 ≤ deep.tmod 6 := Int.tmod_nonneg 6 hd.1
    have hl : (Te.mk 5 0 [] [sort0, b]).ok := by
      refine .mk (by simp) (by simp) (by intro x hx; cases hx) ?_
      intro x hx
      simp at hx
      rcases hx with rfl | rfl
      · exact sort0_ok
      · exact hb
    obtain ⟨m, hm⟩ := Int.eq_ofNat_of_zero_le h6
    have := loop_loop f deep hf hd H m 0 (.mk 4 0 [] [.mk 5 0 [] [sort0, b], .mk 5 0 [] [sort0, b]]) (by
      refine .mk (by simp) (by simp) (by intro x hx; cases hx) ?_
      intro x hx
      simp at hx
      subst hx; exact hl) (by simp [hm])
    exact this
  have k0 := key (.mk 4 0 [] [.mk 1 0 [] [], .mk 1 0 [] []]) (by simp [okT_mk])
  have k1 := key (.mk 4 0 [] [.mk 4 0 [] [.mk 1 0 [] [], .mk 1 0 [] []], .mk 1 0 [] []]) (by simp [okT_mk])
  have k2 := key (.mk 5 0 [] [sort0, .mk 4 0 [] [.mk 1 1 [] [], .mk 1 1 [] []]]) (by simp [okT_mk, okL_mk, sort0])
  have k3 := key (.mk 7 0 [] [sort0, .mk 1 0 [] [], .mk 4 0 [] [.mk 1 0 [] [], .mk 4 0 [] [.mk 1 0 [] [], .mk 1 1 [] []]]]) (by simp [okT_mk, okL_mk, sort0])
  simp only [Te.cs, Te.css, Lv.cs, Lv.css, sort0] at hV0 hV1 hS0 k0 k1 k2 k3
  have c0 := fun H => Bind13_ok 4 [.mk 1 0 [] [], .mk 1 0 [] []] H
  have c1 := fun H => Bind13_ok 4 [(.mk 4 0 [] [.mk 1 0 [] [], .mk 1 0 [] []]), .mk 1 0 [] []] H
  have c2 := fun H => Bind13_ok 4 [.mk 1 1 [] [], .mk 1 1 [] []] H
  have c3 := fun H => Bind13_ok 5 [sort0, (.mk 4 0 [] [.mk 1 1 [] [], .mk 1 1 [] []])] H
  have c4 := fun H => Bind13_ok 4 [.mk 1 0 [] [], .mk 1 1 [] []] H
  have c5 := fun H => Bind13_ok 4 [.mk 1 0 [] [], (.mk 4 0 [] [.mk 1 0 [] [], .mk 1 1 [] []])] H
  have c6 := fun H => Bind13_ok 7 [sort0, .mk 1 0 [] [], (.mk 4 0 [] [.mk 1 0 [] [], (.mk 4 0 [] [.mk 1 0 [] [], .mk 1 1 [] []])])] H
  have c7 := fun H => Bind13_ok 5 [sort0, (.mk 4 0 [] [.mk 1 0 [] [], .mk 1 0 [] []])] H
  have c8 := fun H => Bind13_ok 4 [(.mk 5 0 [] [sort0, (.mk 4 0 [] [.mk 1 0 [] [], .mk 1 0 [] []])]), (.mk 5 0 [] [sort0, (.mk 4 0 [] [.mk 1 0 [] [], .mk 1 0 [] []])])] H
  have c9 := fun H => Bind13_ok 5 [sort0, (.mk 4 0 [] [(.mk 4 0 [] [.mk 1 0 [] [], .mk 1 0 [] []]), .mk 1 0 [] []])] H
  have c10 := fun H => Bind13_ok 4 [(.mk 5 0 [] [sort0, (.mk 4 0 [] [(.mk 4 0 [] [.mk 1 0 [] [], .mk 1 0 [] []]), .mk 1 0 [] []])]), (.mk 5 0 [] [sort0, (.mk 4 0 [] [(.mk 4 0 [] [.mk 1 0 [] [], .mk 1 0 [] []]), .mk 1 0 [] []])])] H
  have c11 := fun H => Bind13_ok 5 [sort0, (.mk 5 0 [] [sort0, (.mk 4 0 [] [.mk 1 1 [] [], .mk 1 1 [] []])])] H
  have c12 := fun H => Bind13_ok 4 [(.mk 5 0 [] [sort0, (.mk 5 0 [] [sort0, (.mk 4 0 [] [.mk 1 1 [] [], .mk 1 1 [] []])])]), (.mk 5 0 [] [sort0, (.mk 5 0 [] [sort0, (.mk 4 0 [] [.mk 1 1 [] [], .mk 1 1 [] []])])])] H
  have c13 := fun H => Bind13_ok 5 [sort0, (.mk 7 0 [] [sort0, .mk 1 0 [] [], (.mk 4 0 [] [.mk 1 0 [] [], (.mk 4 0 [] [.mk 1 0 [] [], .mk 1 1 [] []])])])] H
  have c14 := fun H => Bind13_ok 4 [(.mk 5 0 [] [sort0, (.mk 7 0 [] [sort0, .mk 1 0 [] [], (.mk 4 0 [] [.mk 1 0 [] [], (.mk 4 0 [] [.mk 1 0 [] [], .mk 1 1 [] []])])])]), (.mk 5 0 [] [sort0, (.mk 7 0 [] [sort0, .mk 1 0 [] [], (.mk 4 0 [] [.mk 1 0 [] [], (.mk 4 0 [] [.mk 1 0 [] [], .mk 1 1 [] []])])])])] H
  simp only [Te.cs, Te.css, Lv.cs, Lv.css, sort0] at c0 c1 c2 c3 c4 c5 c6 c7 c8 c9 c10 c11 c12 c13 c14
  have h4 : 0 ≤ how.tmod 4 := Int.tmod_nonneg 4 hh.1
  have h5 : how.tmod 4 < 4 := Int.tmod_lt_of_pos _ (by decide)
  have hc : how.tmod 4 = 0 ∨ how.tmod 4 = 1 ∨ how.tmod 4 = 2 ∨ how.tmod 4 = 3 := by omega
  rw [f_law16_ReduceLoop]
  rcases hc with h | h | h | h <;>
    simp only [↓reduceIte, go_sem, h, hV0, hV1, hS0, cfl_f0, c0, c1, c2, c3, c4, c5, c6, c7, c8, c9, c10, c11, c12, c13, c14, k0, k1, k2, k3]
theorem ReduceAny_row (env : List De) (hE : okDs env) (t : Te) (ht : t.ok) (f : Int) (_ : (Lit.int .i64 f).wf = true) (H : List AO) : F law16_ReduceAny [.sl (De.css env), .agg t.cs, .int .i64 f] H = some (.ret (.bool true), H) :=
  ReduceAny_ok env hE t ht f H
theorem ReduceLoop_row (f : Int) (hf : 0 ≤ f ∧ f < 256) (how : Int) (hh : 0 ≤ how ∧ how < 256) (deep : Int) (hd : 0 ≤ deep ∧ deep < 256) (H : List AO) : F law16_ReduceLoop [.int .u8 f, .int .u8 how, .int .u8 deep] H = some (.ret (.bool true), H) :=
  ReduceLoop_ok f how deep hf hh hd H
end Go.Ab
