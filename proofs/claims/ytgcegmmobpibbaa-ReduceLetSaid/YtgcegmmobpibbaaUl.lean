/- Layer 16: terms and declarations by numbers. Conditions: none. -/
import Derived.Test.YtgcegmmobpibbaaTg
import Derived.Test.YtgcegmmobpibbaaTh
import Derived.Test.YtgcegmmobpibbaaUj
set_option linter.unusedVariables false
set_option linter.unusedSimpArgs false
set_option maxRecDepth 100000
set_option maxHeartbeats 4000000
namespace Go.Ab
open Go.RowKit Go.Proofs

def levelsC (L : List Int) (p : Int) : Nat → Int → List Lv × Int
  | 0, a => ([], a)
  | i + 1, a => ((levelS L p 0 2 a).1 :: (levelsC L p i (levelS L p 0 2 a).2).1, (levelsC L p i (levelS L p 0 2 a).2).2)
def closedS (L : List Int) (c p : Int) : Nat → Int → Int → Te × Int
  | 0, v, a => (.mk 1 0 [] [], a)
  | d + 1, v, a =>
    let k0 := pickS L a 12
    let k := if d = 0 then k0.tmod 5 else k0
    if k < 2 ∧ 0 < v then (.mk 1 (pickS L (a + 1) v) [] [], a + 1 + 1)
    else if k < 4 ∧ 0 < c then (.mk 3 (pickS L (a + 1) c) (levelsC L p (pickS L (a + 1 + 1) 3).toNat (a + 1 + 1 + 1)).1 [], (levelsC L p (pickS L (a + 1 + 1) 3).toNat (a + 1 + 1 + 1)).2)
    else if k < 5 then (.mk 2 0 [(levelS L p 0 2 (a + 1)).1] [], (levelS L p 0 2 (a + 1)).2)
    else
      let x := closedS L c p d v (a + 1)
      if k < 8 then (.mk 4 0 [] [x.1, (closedS L c p d v x.2).1], (closedS L c p d v x.2).2)
      else if k < 10 then (.mk 5 0 [] [x.1, (closedS L c p d (v + 1) x.2).1], (closedS L c p d (v + 1) x.2).2)
      else if k < 11 then (.mk 6 0 [] [x.1, (closedS L c p d (v + 1) x.2).1], (closedS L c p d (v + 1) x.2).2)
      else (.mk 7 0 [] [x.1, (closedS L c p d v x.2).1, (closedS L c p d (v + 1) (closedS L c p d v x.2).2).1], (closedS L c p d (v + 1) (closedS L c p d v x.2).2).2)
theorem levelsC_at (L : List Int) (p : Int) : ∀ (i : Nat) (a : Int), a ≤ (levelsC L p i a).2 ∧ (levelsC L p i a).2 ≤ a + 7 * i
  | 0, a => by simp [levelsC]
  | i + 1, a => by
    have h1 := levelS_at L p 0 2 a
    have h2 := levelsC_at L p i (levelS L p 0 2 a).2
    rw [levelsC]
    simp at h1 ⊢
    omega
theorem closedS_at {L : List Int} (c p : Int) (hL : BytesOk L) : ∀ (d : Nat) (v a : Int), a ≤ (closedS L c p d v a).2 ∧ (closedS L c p d v a).2 ≤ a + 40 * 4 ^ d
  | 0, v, a => by simp [closedS]; omega
  | d + 1, v, a => by
    have hp : (4 : Int) ^ (d + 1) = 4 * 4 ^ d := by rw [Int.pow_succ]; omega
    have hq : (1 : Int) ≤ 4 ^ d := Int.pow_pos (by decide)
    have h1 := levelS_at L p 0 2 (a + 1)
    have h2 := pick_range hL (a + 1 + 1) (n := 3) (by omega)
    have h3 := levelsC_at L p (pickS L (a + 1 + 1) 3).toNat (a + 1 + 1 + 1)
    have h4 := closedS_at c p hL d v (a + 1)
    have h5 := closedS_at c p hL d v (closedS L c p d v (a + 1)).2
    have h6 := closedS_at c p hL d (v + 1) (closedS L c p d v (a + 1)).2
    have h7 := closedS_at c p hL d (v + 1) (closedS L c p d v (closedS L c p d v (a + 1)).2).2
    simp only [Int.reducePow, Nat.reduceAdd] at h1
    rw [closedS]
    dsimp only
    repeat' split
    all_goals (try dsimp only) <;> constructor <;> omega

theorem levelsC_loop (p : Int) (hp0 : 0 ≤ p ∧ p ≤ 100) (L : List Int) (hL : BytesOk L) (hlen : L.length ≤ 140737488355328) (id : Nat) (H : List AO) (hid : id < H.length) (a0 n : Int)  : ∀ (i : Nat) (done : List Lv) (a : Int), i ≤ 10 → done.length + i ≤ 100 → 0 ≤ a ∧ a + 7 * i ≤ 600000 →
    L_law16_closed_0 (H.set id (mkr L a0)) ((H ++ [AO.lst 0 3 [], .lst 0 4 [], .lst done.length 3 (Lv.css done), .lst 0 4 [], .lst 0 3 [], .lst 0 4 []]).set id (mkr L a)) (.ptr id 0) (.int .i64 p) (.int .i64 (i : Int)) [.int .i64 0, .int .i64 0, .ol H.length 0, .ol (H.length + 1) 0] [.int .i64 3, .int .i64 n, .ol (H.length + 2) done.length, .ol (H.length + 3) 0]
      = some (.ret (.agg (Te.mk 3 n (done ++ (levelsC L p i a).1) []).cs), H.set id (mkr L (levelsC L p i a).2)) := by
  intro i
  induction i with
  | zero =>
    intro done a hi hdl ha
    rw [L_law16_closed_0, awL_eq, levelsC]
    simp only [↓reduceIte, go_sem, Int.natCast_zero, st_app, st_getN hid, st_get0 hid, st_setN hid, st_set0 hid, List.length_set, hid, st_fin hid, Te.cs, Te.css]
  | succ i ih =>
    intro done a hi hdl ha
    have h1 := levelS_at L p 0 2 a
    simp only [Int.reducePow, Nat.reduceAdd] at h1
    have hl : F law02_Maker_Level [.ptr id 0, .int .i64 p, .int .i64 0, .int .i64 2] ((H ++ [AO.lst 0 3 [], .lst 0 4 [], .lst done.length 3 (Lv.css done), .lst 0 4 [], .lst 0 3 [], .lst 0 4 []]).set id (mkr L a)) = _ := level_ok L hL hlen p 0 hp0 (by omega) 1 (by omega) a (by simp; omega) id (H ++ [AO.lst 0 3 [], .lst 0 4 [], .lst done.length 3 (Lv.css done), .lst 0 4 [], .lst 0 3 [], .lst 0 4 []]) (by simp; omega)
    have := ih (done ++ [(levelS L p 0 2 a).1]) (levelS L p 0 2 a).2 (by omega) (by simp; omega) (by omega)
    simp only [len_snoc, List.append_assoc, List.cons_append, List.nil_append] at this
    have hc : ((i + 1 : Nat) : Int) - 1 = (i : Int) := by omega
    have hp : (0 : Int) < ((i + 1 : Nat) : Int) := by omega
    have hdl2 : done.length ≤ 1073741823 := by omega
    rw [L_law16_closed_0, awL_eq, levelsC]
    simp only [↓reduceIte, go_sem, hp, hl, hc, wrap64 (n := (i : Int)) (by omega) (by omega), lcss_snoc, hdl2, st_app, st_getN hid, st_get0 hid, st_setN hid, st_set0 hid, List.length_set, hid, Nat.reduceAdd]
    exact this

theorem closed_ok (c p : Int) (hc0 : 0 ≤ c ∧ c ≤ 100) (hp0 : 0 ≤ p ∧ p ≤ 100) (L : List Int) (hL : BytesOk L) (hlen : L.length ≤ 140737488355328) : ∀ (d : Nat), d ≤ 6 → ∀ (v : Int), 0 ≤ v ∧ v + d ≤ 100 → ∀ (a : Int), 0 ≤ a ∧ a + 40 * 4 ^ (d + 1) ≤ 500000 → ∀ (id : Nat) (H : List AO), id < H.length →
    F law16_closed [.ptr id 0, .int .i64 c, .int .i64 p, .int .i64 v, .int .i64 ((d : Int) + 1)] (H.set id (mkr L a)) = some (.ret (.agg (closedS L c p (d + 1) v a).1.cs), H.set id (mkr L (closedS L c p (d + 1) v a).2)) := by
  intro d
  induction d with
  | zero =>
    intro hd v hv a ha id H hid
    simp at ha
    have hid2 : ∀ X : List AO, id < (H ++ X).length := fun X => by simp; omega
    have hP0 := pick_ok' L hL hlen a (by omega) 12 (by omega) id (H ++ [AO.lst 0 3 [], .lst 0 4 []]) (hid2 _) (by omega)
    have hPv := pick_ok' L hL hlen (a + 1) (by omega) v (by omega) id (H ++ [AO.lst 0 3 [], .lst 0 4 []]) (hid2 _)
    have hP4 := pick_ok' L hL hlen (a + 1) (by omega) c (by omega) id (H ++ [AO.lst 0 3 [], .lst 0 4 []]) (hid2 _)
    have hP3 := pick_ok' L hL hlen (a + 1 + 1) (by omega) 3 (by omega) id (H ++ [AO.lst 0 3 [], .lst 0 4 [], .lst 0 3 [], .lst 0 4 [], .lst 0 3 [], .lst 0 4 []]) (hid2 _) (by omega)
    have hl : F law02_Maker_Level [.ptr id 0, .int .i64 p, .int .i64 0, .int .i64 2] ((H ++ [AO.lst 0 3 [], .lst 0 4 []]).set id (mkr L (a + 1))) = _ := level_ok L hL hlen p 0 hp0 (by omega) 1 (by omega) (a + 1) (by simp; omega) id (H ++ [AO.lst 0 3 [], .lst 0 4 []]) (hid2 _)
    have hr3 := pick_range hL (a + 1 + 1) (n := 3) (by omega)
    have hlo := levelsC_loop p hp0 L hL hlen id H hid a (pickS L (a + 1) c) (pickS L (a + 1 + 1) 3).toNat [] (a + 1 + 1 + 1) (by omega) (by simp; omega) (by omega)
    simp only [Int.toNat_of_nonneg hr3.1, List.length_nil, List.nil_append, Lv.css] at hlo
    have hk := pick_range hL a (n := 12) (by omega)
    rw [f_law16_closed, closedS]
    generalize pickS L a 12 = k0 at *
    have h4 : ¬ (5 : Int) = 0 := by decide
    have h5 : ((0 : Nat) : Int) + 1 < 2 := by decide
    have h6 : k0.tmod 5 < 5 := by
      rw [Int.tmod_eq_emod_of_nonneg hk.1]; exact Int.emod_lt_of_pos _ (by omega)
    generalize hk4 : k0.tmod 5 = k at *
    have h9 : k < 5 := h6
    by_cases h7 : k < 2 <;> by_cases h8 : 0 < v <;> by_cases h10 : k < 4 <;> by_cases h11 : 0 < c
    all_goals first
      | omega
      | (simp only [↓reduceIte, go_sem, st_app, st_getN hid, st_get0 hid, st_setN hid, st_set0 hid, List.length_set, hid, lt_addr, st_fin hid, hP0, hPv, hP4, hP3, hl, hk4, h4, h5, h7, h8, h9, h10, h11, Var13_ok, Sort13_ok, and_self, and_false, false_and, true_and, if_true, if_false]; done)
      | (simp only [↓reduceIte, go_sem, st_app, st_getN hid, st_get0 hid, st_setN hid, st_set0 hid, List.length_set, hid, lt_addr, st_fin hid, hP0, hPv, hP4, hP3, hl, hk4, h4, h5, h7, h8, h9, h10, h11, Var13_ok, Sort13_ok, and_self, and_false, false_and, true_and, if_true, if_false]; exact hlo)
  | succ d ih =>
    intro hd v hv a ha id H hid
    have hpw : (4 : Int) ^ (d + 1 + 1) = 4 * 4 ^ (d + 1) := by rw [Int.pow_succ]; omega
    have hpw2 : (4 : Int) ^ (d + 1) = 4 * 4 ^ d := by rw [Int.pow_succ]; omega
    have hq : (1 : Int) ≤ 4 ^ d := Int.pow_pos (by decide)
    have hid2 : ∀ X : List AO, id < (H ++ X).length := fun X => by simp; omega
    have hP0 := pick_ok' L hL hlen a (by omega) 12 (by omega) id (H ++ [AO.lst 0 3 [], .lst 0 4 []]) (hid2 _) (by omega)
    have hPv := pick_ok' L hL hlen (a + 1) (by omega) v (by omega) id (H ++ [AO.lst 0 3 [], .lst 0 4 []]) (hid2 _)
    have hP4 := pick_ok' L hL hlen (a + 1) (by omega) c (by omega) id (H ++ [AO.lst 0 3 [], .lst 0 4 []]) (hid2 _)
    have hP3 := pick_ok' L hL hlen (a + 1 + 1) (by omega) 3 (by omega) id (H ++ [AO.lst 0 3 [], .lst 0 4 [], .lst 0 3 [], .lst 0 4 [], .lst 0 3 [], .lst 0 4 []]) (hid2 _) (by omega)
    have hl : F law02_Maker_Level [.ptr id 0, .int .i64 p, .int .i64 0, .int .i64 2] ((H ++ [AO.lst 0 3 [], .lst 0 4 []]).set id (mkr L (a + 1))) = _ := level_ok L hL hlen p 0 hp0 (by omega) 1 (by omega) (a + 1) (by simp; omega) id (H ++ [AO.lst 0 3 [], .lst 0 4 []]) (hid2 _)
    have hr3 := pick_range hL (a + 1 + 1) (n := 3) (by omega)
    have hlo := levelsC_loop p hp0 L hL hlen id H hid a (pickS L (a + 1) c) (pickS L (a + 1 + 1) 3).toNat [] (a + 1 + 1 + 1) (by omega) (by simp; omega) (by omega)
    simp only [Int.toNat_of_nonneg hr3.1, List.length_nil, List.nil_append, Lv.css] at hlo
    have hk := pick_range hL a (n := 12) (by omega)
    have hT1 := closedS_at c p hL (d + 1) v (a + 1)
    have hT2 := closedS_at c p hL (d + 1) v (closedS L c p (d + 1) v (a + 1)).2
    have hC1 := fun Y : List AO => ih (by omega) v (by omega) (a + 1) (by omega) id (H ++ Y) (hid2 _)
    have hC2 := fun Y : List AO => ih (by omega) v (by omega) (closedS L c p (d + 1) v (a + 1)).2 (by omega) id (H ++ Y) (hid2 _)
    have hC3 := fun Y : List AO => ih (by omega) (v + 1) (by omega) (closedS L c p (d + 1) v (a + 1)).2 (by omega) id (H ++ Y) (hid2 _)
    have hC4 := fun Y : List AO => ih (by omega) (v + 1) (by omega) (closedS L c p (d + 1) v (closedS L c p (d + 1) v (a + 1)).2).2 (by omega) id (H ++ Y) (hid2 _)
    have hd1 : ((d + 1 : Nat) : Int) + 1 - 1 = (d : Int) + 1 := by omega
    have hw1 : IntKind.i64.wrap ((d : Int) + 1) = (d : Int) + 1 := wrap64 (by omega) (by omega)
    have hw2 : IntKind.i64.wrap (v + 1) = v + 1 := wrap64 (by omega) (by omega)
    rw [f_law16_closed, closedS]
    generalize pickS L a 12 = k at *
    have h4 : ¬ (5 : Int) = 0 := by decide
    have h5 : ¬ ((d + 1 : Nat) : Int) + 1 < 2 := by omega
    have h6 : ¬ d + 1 = 0 := by omega
    by_cases h9 : k < 5
    · by_cases h7 : k < 2 <;> by_cases h8 : 0 < v <;> by_cases h10 : k < 4 <;> by_cases h11 : 0 < c
      all_goals first
        | omega
        | (simp only [↓reduceIte, go_sem, st_app, st_getN hid, st_get0 hid, st_setN hid, st_set0 hid, List.length_set, hid, lt_addr, st_fin hid, hP0, hPv, hP4, hP3, hl, h4, h5, h6, h7, h8, h9, h10, h11, Var13_ok, Sort13_ok, and_self, and_false, false_and, true_and, if_true, if_false]; done)
        | (simp only [↓reduceIte, go_sem, st_app, st_getN hid, st_get0 hid, st_setN hid, st_set0 hid, List.length_set, hid, lt_addr, st_fin hid, hP0, hPv, hP4, hP3, hl, h4, h5, h6, h7, h8, h9, h10, h11, Var13_ok, Sort13_ok, and_self, and_false, false_and, true_and, if_true, if_false]; exact hlo)
    · have h7 : ¬ k < 2 := by omega
      have h8 : ¬ k < 4 := by omega
      have h10 : k < 8 ∨ ¬ k < 8 ∧ k < 10 ∨ ¬ k < 8 ∧ ¬ k < 10 ∧ k < 11 ∨ ¬ k < 8 ∧ ¬ k < 10 ∧ ¬ k < 11 := by omega
      rcases h10 with h10 | ⟨h10, h11⟩ | ⟨h10, h11, h12⟩ | ⟨h10, h11, h12⟩
      · simp only [↓reduceIte, go_sem, st_app, st_getN hid, st_get0 hid, st_setN hid, st_set0 hid, List.length_set, hid, lt_addr, st_fin hid, hP0, hPv, hP4, hP3, hl, h4, h5, h6, h7, h8, h9, h10, hd1, hw1, hw2, hC1, hC2, hC3, hC4, Bind13_ok, tfold2, tfold3, Var13_ok, Sort13_ok, and_self, and_false, false_and, true_and, if_true, if_false]
      · simp only [↓reduceIte, go_sem, st_app, st_getN hid, st_get0 hid, st_setN hid, st_set0 hid, List.length_set, hid, lt_addr, st_fin hid, hP0, hPv, hP4, hP3, hl, h4, h5, h6, h7, h8, h9, h10, h11, hd1, hw1, hw2, hC1, hC2, hC3, hC4, Bind13_ok, tfold2, tfold3, Var13_ok, Sort13_ok, and_self, and_false, false_and, true_and, if_true, if_false]
      · simp only [↓reduceIte, go_sem, st_app, st_getN hid, st_get0 hid, st_setN hid, st_set0 hid, List.length_set, hid, lt_addr, st_fin hid, hP0, hPv, hP4, hP3, hl, h4, h5, h6, h7, h8, h9, h10, h11, h12, hd1, hw1, hw2, hC1, hC2, hC3, hC4, Bind13_ok, tfold2, tfold3, Var13_ok, Sort13_ok, and_self, and_false, false_and, true_and, if_true, if_false]
      · simp only [↓reduceIte, go_sem, st_app, st_getN hid, st_get0 hid, st_setN hid, st_set0 hid, List.length_set, hid, lt_addr, st_fin hid, hP0, hPv, hP4, hP3, hl, h4, h5, h6, h7, h8, h9, h10, h11, h12, hd1, hw1, hw2, hC1, hC2, hC3, hC4, Bind13_ok, tfold2, tfold3, Var13_ok, Sort13_ok, and_self, and_false, false_and, true_and, if_true, if_false]
end Go.Ab
