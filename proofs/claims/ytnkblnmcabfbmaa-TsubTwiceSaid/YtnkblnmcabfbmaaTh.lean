/- The statement on terms by numbers. Conditions: none. -/
import Derived.Test.YtnkblnmcabfbmaaTg
import Derived.Test.YtnkblnmcabfbmaaLw
set_option linter.unusedVariables false
set_option linter.unusedSimpArgs false
set_option maxRecDepth 100000
set_option maxHeartbeats 2000000
namespace Go.Ab
open Go.RowKit Go.Proofs

theorem levelS_ok (L : List Int) (p m : Int) : ∀ (d : Nat) (a : Int), (levelS L p m d a).1.ok
  | 0, a => by rw [levelS]; simp [okL_mk]
  | d + 1, a => by
    have h := levelS_ok L p m d
    rw [levelS]
    repeat' split
    all_goals simp [okL_mk, h]
theorem levelsS_ok (L : List Int) : ∀ (i : Nat) (a : Int), (levelsS L i a).1.length = i ∧ ∀ x ∈ (levelsS L i a).1, x.ok
  | 0, a => by simp [levelsS]
  | i + 1, a => by
    have h := levelsS_ok L i
    rw [levelsS]
    refine ⟨by simp [h], ?_⟩
    intro x hx
    simp at hx
    rcases hx with rfl | hx
    · exact levelS_ok _ _ _ _ _
    · exact (h _).2 x hx
theorem termS_ok {L : List Int} (hL : BytesOk L) : ∀ (d : Nat) (v a : Int), (termS L d v a).1.ok
  | 0, v, a => by rw [termS]; simp [okT_mk]
  | d + 1, v, a => by
    have h := fun v a => termS_ok hL d v a
    have h3 := levelsS_ok L (pickS L (a + 1 + 1) 3).toNat (a + 1 + 1 + 1)
    have h2 := pick_range hL (a + 1 + 1) (n := 3) (by omega)
    rw [termS]
    dsimp only
    repeat' split
    all_goals simp [okT_mk, h, levelS_ok]
    all_goals exact ⟨by omega, h3.2⟩
def made13S (L : List Int) : Te := (termS L 4 3 0).1
theorem made13S_ok {L : List Int} (hL : BytesOk L) : (made13S L).ok := termS_ok hL _ _ _
theorem term_new (L : List Int) (hL : BytesOk L) (hlen : L.length ≤ 140737488355328) (d : Nat) (hd : d ≤ 5) (hp : 40 * (4 : Int) ^ (d + 1) ≤ 500000) (v : Int) (hv : 0 ≤ v ∧ v ≤ 90) (H : List AO) :
    F law13_Term [.ptr H.length 0, .int .i64 v, .int .i64 ((d : Int) + 1)] (H ++ [mkr L 0]) = some (.ret (.agg (termS L (d + 1) v 0).1.cs), H ++ [mkr L (termS L (d + 1) v 0).2]) := by
  have := term_ok L hL hlen d (by omega) v (by omega) 0 (by omega) H.length (H ++ [mkr L 0]) (by simp)
  rw [app_set, app_set] at this
  exact this
theorem made13_ok (L : List Int) (hL : BytesOk L) (hlen : L.length ≤ 140737488355328) (H : List AO) : F law13_Made [.sl (u8s L)] H = some (.ret (.agg (made13S L).cs), H) := by
  have h : F law13_Term [.ptr H.length 0, .int .i64 3, .int .i64 4] (H ++ [mkr L 0]) = _ := term_new L hL hlen 3 (by omega) (by decide) 3 (by omega) H
  rw [f_law13_Made]
  have h0 : AO.box [.sl (u8s L), .int .i64 0] = mkr L 0 := rfl
  simp only [↓reduceIte, go_sem, h0, h, made13S]

@[go_sem] theorem lt_ol {n id v : Nat} : Lt n (.ol id v) = (id < n) := propext ⟨fun h => by cases h; assumption, .ol⟩
theorem Bind13_ol (k : Int) (id v : Nat) (H : List AO) (hid : id < H.length) : F law13_Bind [.int .i64 k, .ol id v] H = some (.ret (.agg [.int .i64 k, .int .i64 0, .sl [], .ol id v]), H) := by
  rw [f_law13_Bind]
  have h2 : ¬ H.length ≤ id := by omega
  simp only [↓reduceIte, go_sem, hid, h2]
theorem set4_tcs (x : Te) (a b c d : AV) : (((x.cs.set 0 a).set 1 b).set 2 c).set 3 d = [a, b, c, d] := by cases x; rfl
theorem TermMade_ok (L K : List Int) (hL : BytesOk L) (hK : BytesOk K) (hlen : L.length ≤ 140737488355328) (hlenK : K.length ≤ 140737488355328) (f b w n : Int) (hf : 0 ≤ f ∧ f < 256) (hb : 0 ≤ b ∧ b < 256) (hw : 0 ≤ w ∧ w < 256) (H : List AO) :
    F law13_TermMade [.sl (u8s L), .sl (u8s K), .int .u8 f, .int .u8 b, .int .u8 w, .int .i64 n] H = some (.ret (.bool true), H) := by
  have ht := made13S_ok hL
  have hu := made13S_ok hK
  have m1 := made13_ok L hL hlen
  have m2 := made13_ok K hK hlenK
  generalize made13S L = t at *
  generalize made13S K = u at *
  have e1 := told13_ok t u ht hu
  have e2 := told13_ok t t ht ht
  have w1 : IntKind.i64.wrap f = f := wrap64 (by omega) (by omega)
  have w2 : IntKind.i64.wrap b = b := wrap64 (by omega) (by omega)
  have w3 : IntKind.i64.wrap (b * 4) = b * 4 := wrap64 (by omega) (by omega)
  have w4 : IntKind.i64.wrap w = w := wrap64 (by omega) (by omega)
  have hb0 := fun id v H h => Bind13_ol 6 id v H h
  have h7 : w.tmod 7 = 0 ∨ w.tmod 7 = 1 ∨ w.tmod 7 = 2 ∨ w.tmod 7 = 3 ∨ w.tmod 7 = 4 ∨ w.tmod 7 = 5 ∨ w.tmod 7 = 6 := by
    rw [Int.tmod_eq_emod_of_nonneg hw.1]; omega
  have t1 : Int.toNat 1 = 1 := rfl
  have l12 : ((1 : Int) ≤ ((2 : Nat) : Int)) = True := by simp
  have lt0 : H.length < H.length + 1 := by omega
  have fin : ∀ x : Te, x.ok → (∀ (X : List AO), F law13_told [.agg x.cs, .agg t.cs, .int .i64 1, .int .i64 1] (H ++ X) = some (.ret (.bool true), H ++ X)) ∧ (∀ (X : List AO), F law13_told [.agg t.cs, .agg x.cs, .int .i64 0, .int .i64 1] (H ++ X) = some (.ret (.bool true), H ++ X)) :=
    fun x hx => ⟨fun X => told13_ok x t hx ht 1 1 _, fun X => told13_ok t x ht hx 0 1 _⟩
  have hq : w.tdiv 8 = (w / 8) := Int.tdiv_eq_ediv_of_nonneg hw.1
  have w5 : IntKind.i64.wrap (w.tdiv 8) = w.tdiv 8 := by rw [hq]; exact wrap64 (by omega) (by omega)
  have hr : (w.tdiv 8).tmod 2 = 0 ∨ (w.tdiv 8).tmod 2 = 1 := by rw [hq, Int.tmod_eq_emod_of_nonneg (by omega)]; omega
  rw [f_law13_TermMade]
  rcases h7 with h | h | h | h | h | h | h
  · obtain ⟨g1, g2⟩ := fin (.mk 6 n [] [t, u]) (by simp [okT_mk, ht, hu])
    simp only [Te.cs, Lv.css, Te.css] at g1 g2
    simp only [↓reduceIte, go_sem, m1, m2, e1, e2, w1, w2, w3, w4, hb0, h, awake13_ok, List.length_append, lt0, Nat.zero_le, Var13_ok, Te.cs, Lv.css, Te.css, t1, l12, set4_tcs, List.take_succ_cons, List.take_zero, g1, g2]
  · obtain ⟨g1, g2⟩ := fin (.mk n 0 [] [t, u]) (by simp [okT_mk, ht, hu])
    simp only [Te.cs, Lv.css, Te.css] at g1 g2
    simp only [↓reduceIte, go_sem, m1, m2, e1, e2, w1, w2, w3, w4, hb0, h, awake13_ok, List.length_append, lt0, Nat.zero_le, Var13_ok, Te.cs, Lv.css, Te.css, t1, l12, set4_tcs, List.take_succ_cons, List.take_zero, g1, g2]
  · obtain ⟨g1, g2⟩ := fin (.mk 6 0 [] [t]) (by simp [okT_mk, ht, hu])
    simp only [Te.cs, Lv.css, Te.css] at g1 g2
    simp only [↓reduceIte, go_sem, m1, m2, e1, e2, w1, w2, w3, w4, hb0, h, awake13_ok, List.length_append, lt0, Nat.zero_le, Var13_ok, Te.cs, Lv.css, Te.css, t1, l12, set4_tcs, List.take_succ_cons, List.take_zero, g1, g2]
  · obtain ⟨g1, g2⟩ := fin (.mk 6 0 [.mk 1 0 []] [t, u]) (by simp [okT_mk, okL_mk, ht, hu])
    simp only [Te.cs, Lv.cs, Lv.css, Te.css] at g1 g2
    simp only [↓reduceIte, go_sem, m1, m2, e1, e2, w1, w2, w3, w4, hb0, h, awake13_ok, List.length_append, lt0, Nat.zero_le, Var13_ok, Te.cs, Lv.css, Te.css, t1, l12, set4_tcs, List.take_succ_cons, List.take_zero, g1, g2]
  · obtain ⟨g1, g2⟩ := fin (.mk 6 0 [] [t, .mk 1 n [] []]) (by simp [okT_mk, okL_mk, ht, hu])
    simp only [Te.cs, Lv.cs, Lv.css, Te.css] at g1 g2
    simp only [↓reduceIte, go_sem, m1, m2, e1, e2, w1, w2, w3, w4, hb0, h, awake13_ok, List.length_append, lt0, Nat.zero_le, Var13_ok, Te.cs, Lv.css, Te.css, t1, l12, set4_tcs, List.take_succ_cons, List.take_zero, g1, g2]
  · rcases hr with hr | hr
    · obtain ⟨g1, g2⟩ := fin (.mk 6 0 [] [.mk 3 n [] [], u]) (by simp [okT_mk, okL_mk, ht, hu])
      simp only [Te.cs, Lv.cs, Lv.css, Te.css] at g1 g2
      simp only [↓reduceIte, go_sem, m1, m2, e1, e2, w1, w2, w3, w4, hb0, h, awake13_ok, List.length_append, lt0, Nat.zero_le, Var13_ok, Te.cs, Lv.css, Te.css, t1, l12, set4_tcs, List.take_succ_cons, List.take_zero, w5, hr, g1, g2]
    · obtain ⟨g1, g2⟩ := fin (.mk 6 0 [] [.mk 3 n [.mk 0 0 []] [], u]) (by simp [okT_mk, okL_mk, ht, hu])
      simp only [Te.cs, Lv.cs, Lv.css, Te.css] at g1 g2
      simp only [↓reduceIte, go_sem, m1, m2, e1, e2, w1, w2, w3, w4, hb0, h, awake13_ok, List.length_append, lt0, Nat.zero_le, Var13_ok, Te.cs, Lv.css, Te.css, t1, l12, set4_tcs, List.take_succ_cons, List.take_zero, w5, hr, g1, g2]
  · obtain ⟨g1, g2⟩ := fin (.mk 6 0 [] [.mk 2 0 [.mk 5 n []] [], u]) (by simp [okT_mk, okL_mk, ht, hu])
    simp only [Te.cs, Lv.cs, Lv.css, Te.css] at g1 g2
    simp only [↓reduceIte, go_sem, m1, m2, e1, e2, w1, w2, w3, w4, hb0, h, awake13_ok, List.length_append, lt0, Nat.zero_le, Var13_ok, Te.cs, Lv.css, Te.css, t1, l12, set4_tcs, List.take_succ_cons, List.take_zero, g1, g2]
theorem TermMade_row (L : List Int) (hL : L.length ≤ 140737488355328 ∧ BytesOk L) (K : List Int) (hK : K.length ≤ 140737488355328 ∧ BytesOk K) (f : Int) (hf : 0 ≤ f ∧ f < 256) (b : Int) (hb : 0 ≤ b ∧ b < 256) (w : Int) (hw : 0 ≤ w ∧ w < 256) (n : Int) (_ : (Lit.int .i64 n).wf = true) (H : List AO) :
    F law13_TermMade [.sl (u8s L), .sl (u8s K), .int .u8 f, .int .u8 b, .int .u8 w, .int .i64 n] H = some (.ret (.bool true), H) := TermMade_ok L K hL.2 hK.2 hL.1 hK.1 f b w n hf hb hw H
end Go.Ab
