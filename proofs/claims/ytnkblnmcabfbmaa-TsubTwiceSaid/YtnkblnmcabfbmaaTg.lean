/- Terms by numbers. Conditions: none. -/
import Derived.Test.YtnkblnmcabfbmaaTa
set_option linter.unusedVariables false
set_option linter.unusedSimpArgs false
set_option maxRecDepth 100000
set_option maxHeartbeats 2000000
namespace Go.Ab
open Go.RowKit Go.Proofs

theorem st_app {H Y : List AO} {id : Nat} {x : AO} (h : id < H.length) : H.set id x ++ Y = (H ++ Y).set id x := by rw [List.set_append_left _ _ h]
theorem st_getN {H Y : List AO} {id i : Nat} {x : AO} (h : id < H.length) : ((H ++ Y).set id x)[H.length + i]? = Y[i]? := by
  rw [List.getElem?_set_ne (by omega), app_getN]
theorem st_get0 {H Y : List AO} {id : Nat} {x : AO} (h : id < H.length) : ((H ++ Y).set id x)[H.length]? = Y[0]? := by
  rw [List.getElem?_set_ne (by omega), app_get0]
theorem st_setN {H Y : List AO} {id i : Nat} {x y : AO} (h : id < H.length) : ((H ++ Y).set id x).set (H.length + i) y = (H ++ Y.set i y).set id x := by
  rw [List.set_comm _ _ (by omega), app_setN]
theorem st_set0 {H Y : List AO} {id : Nat} {x y : AO} (h : id < H.length) : ((H ++ Y).set id x).set H.length y = (H ++ Y.set 0 y).set id x := by
  rw [List.set_comm _ _ (by omega), app_setZ]
theorem lt_addr {a b c : Nat} (h : a < b) : (a < b + c) = True := by simp; omega
open Classical in
theorem st_fin {H X : List AO} {r : Res} {id : Nat} {y : AO} {L : List Int} {b : Int} (h : id < H.length) : fin1F (H.set id y) r ((H ++ X).set id (mkr L b)) = if LtR H.length r then some (r, H.set id (mkr L b)) else none := by
  have e : (H ++ X).set id (mkr L b) = (H.set id y).set id (mkr L b) ++ X := by rw [set_set', st_app h]
  rw [e]
  have := fin1F_set (H := H.set id y) (X := X) (r := r) (id := id) (x := mkr L b) (mkr_lt _ L b)
  rw [this, List.length_set, set_set']

def levelsS (L : List Int) : Nat → Int → List Lv × Int
  | 0, a => ([], a)
  | i + 1, a => ((levelS L 3 2 2 a).1 :: (levelsS L i (levelS L 3 2 2 a).2).1, (levelsS L i (levelS L 3 2 2 a).2).2)
def termS (L : List Int) : Nat → Int → Int → Te × Int
  | 0, v, a => (.mk 1 0 [] [], a)
  | d + 1, v, a =>
    let k0 := pickS L a 12
    let k := if d = 0 then k0.tmod 4 else k0
    if k < 2 ∧ 0 < v then (.mk 1 (pickS L (a + 1) v) [] [], a + 1 + 1)
    else if k < 3 then (.mk 2 0 [(levelS L 3 2 3 (a + 1)).1] [], (levelS L 3 2 3 (a + 1)).2)
    else if k < 4 then (.mk 3 (pickS L (a + 1) 4) (levelsS L (pickS L (a + 1 + 1) 3).toNat (a + 1 + 1 + 1)).1 [], (levelsS L (pickS L (a + 1 + 1) 3).toNat (a + 1 + 1 + 1)).2)
    else
      let x := termS L d v (a + 1)
      if k < 7 then (.mk 4 0 [] [x.1, (termS L d v x.2).1], (termS L d v x.2).2)
      else if k < 9 then (.mk 5 0 [] [x.1, (termS L d (v + 1) x.2).1], (termS L d (v + 1) x.2).2)
      else if k < 11 then (.mk 6 0 [] [x.1, (termS L d (v + 1) x.2).1], (termS L d (v + 1) x.2).2)
      else (.mk 7 0 [] [x.1, (termS L d v x.2).1, (termS L d (v + 1) (termS L d v x.2).2).1], (termS L d (v + 1) (termS L d v x.2).2).2)
theorem levelsS_at (L : List Int) : ∀ (i : Nat) (a : Int), a ≤ (levelsS L i a).2 ∧ (levelsS L i a).2 ≤ a + 7 * i
  | 0, a => by simp [levelsS]
  | i + 1, a => by
    have h1 := levelS_at L 3 2 2 a
    have h2 := levelsS_at L i (levelS L 3 2 2 a).2
    rw [levelsS]
    simp at h1 ⊢
    omega
theorem termS_at {L : List Int} (hL : BytesOk L) : ∀ (d : Nat) (v a : Int), a ≤ (termS L d v a).2 ∧ (termS L d v a).2 ≤ a + 40 * 4 ^ d
  | 0, v, a => by simp [termS]; omega
  | d + 1, v, a => by
    have hp : (4 : Int) ^ (d + 1) = 4 * 4 ^ d := by rw [Int.pow_succ]; omega
    have hq : (1 : Int) ≤ 4 ^ d := Int.pow_pos (by decide)
    have h1 := levelS_at L 3 2 3 (a + 1)
    have h2 := pick_range hL (a + 1 + 1) (n := 3) (by omega)
    have h3 := levelsS_at L (pickS L (a + 1 + 1) 3).toNat (a + 1 + 1 + 1)
    have h4 := termS_at hL d v (a + 1)
    have h5 := termS_at hL d v (termS L d v (a + 1)).2
    have h6 := termS_at hL d (v + 1) (termS L d v (a + 1)).2
    have h7 := termS_at hL d (v + 1) (termS L d v (termS L d v (a + 1)).2).2
    simp only [Int.reducePow, Nat.reduceAdd] at h1
    rw [termS]
    dsimp only
    repeat' split
    all_goals (try dsimp only) <;> constructor <;> omega

theorem lcss_snoc (a : List Lv) (x : Lv) : Lv.css a ++ [x.cs] = Lv.css (a ++ [x]) := by rw [css_app]; rfl
theorem levels_loop (L : List Int) (hL : BytesOk L) (hlen : L.length ≤ 140737488355328) (id : Nat) (H : List AO) (hid : id < H.length) (a0 n : Int) (v6 : List AV) : ∀ (i : Nat) (done : List Lv) (a : Int), i ≤ 10 → done.length + i ≤ 100 → 0 ≤ a ∧ a + 7 * i ≤ 600000 →
    L_law13_Term_0 (H.set id (mkr L a0)) ((H ++ [AO.lst 0 3 [], .lst 0 4 [], .lst done.length 3 (Lv.css done), .lst 0 4 [], .lst 0 3 [], .lst 0 4 []]).set id (mkr L a)) (.ptr id 0) (.int .i64 (i : Int)) [.int .i64 0, .int .i64 0, .ol H.length 0, .ol (H.length + 1) 0] [.int .i64 3, .int .i64 n, .ol (H.length + 2) done.length, .ol (H.length + 3) 0]
      = some (.ret (.agg (Te.mk 3 n (done ++ (levelsS L i a).1) []).cs), H.set id (mkr L (levelsS L i a).2)) := by
  intro i
  induction i with
  | zero =>
    intro done a hi hdl ha
    rw [L_law13_Term_0, awL_eq, levelsS]
    simp only [↓reduceIte, go_sem, Int.natCast_zero, st_app, st_getN hid, st_get0 hid, st_setN hid, st_set0 hid, List.length_set, hid, st_fin hid, Te.cs, Te.css]
  | succ i ih =>
    intro done a hi hdl ha
    have h1 := levelS_at L 3 2 2 a
    simp only [Int.reducePow, Nat.reduceAdd] at h1
    have hl : F law02_Maker_Level [.ptr id 0, .int .i64 3, .int .i64 2, .int .i64 2] ((H ++ [AO.lst 0 3 [], .lst 0 4 [], .lst done.length 3 (Lv.css done), .lst 0 4 [], .lst 0 3 [], .lst 0 4 []]).set id (mkr L a)) = _ := level_ok L hL hlen 3 2 (by omega) (by omega) 1 (by omega) a (by simp; omega) id (H ++ [AO.lst 0 3 [], .lst 0 4 [], .lst done.length 3 (Lv.css done), .lst 0 4 [], .lst 0 3 [], .lst 0 4 []]) (by simp; omega)
    have := ih (done ++ [(levelS L 3 2 2 a).1]) (levelS L 3 2 2 a).2 (by omega) (by simp; omega) (by omega)
    simp only [len_snoc, List.append_assoc, List.cons_append, List.nil_append] at this
    have hc : ((i + 1 : Nat) : Int) - 1 = (i : Int) := by omega
    have hp : (0 : Int) < ((i + 1 : Nat) : Int) := by omega
    have hdl2 : done.length ≤ 1073741823 := by omega
    rw [L_law13_Term_0, awL_eq, levelsS]
    simp only [↓reduceIte, go_sem, hp, hl, hc, wrap64 (n := (i : Int)) (by omega) (by omega), lcss_snoc, hdl2, st_app, st_getN hid, st_get0 hid, st_setN hid, st_set0 hid, List.length_set, hid, Nat.reduceAdd]
    exact this

theorem term_ok (L : List Int) (hL : BytesOk L) (hlen : L.length ≤ 140737488355328) : ∀ (d : Nat), d ≤ 6 → ∀ (v : Int), 0 ≤ v ∧ v + d ≤ 100 → ∀ (a : Int), 0 ≤ a ∧ a + 40 * 4 ^ (d + 1) ≤ 500000 → ∀ (id : Nat) (H : List AO), id < H.length →
    F law13_Term [.ptr id 0, .int .i64 v, .int .i64 ((d : Int) + 1)] (H.set id (mkr L a)) = some (.ret (.agg (termS L (d + 1) v a).1.cs), H.set id (mkr L (termS L (d + 1) v a).2)) := by
  intro d
  induction d with
  | zero =>
    intro hd v hv a ha id H hid
    simp at ha
    have hid2 : ∀ X : List AO, id < (H ++ X).length := fun X => by simp; omega
    have hP0 := pick_ok' L hL hlen a (by omega) 12 (by omega) id (H ++ [AO.lst 0 3 [], .lst 0 4 []]) (hid2 _) (by omega)
    have hPv := pick_ok' L hL hlen (a + 1) (by omega) v (by omega) id (H ++ [AO.lst 0 3 [], .lst 0 4 []]) (hid2 _)
    have hP4 := pick_ok' L hL hlen (a + 1) (by omega) 4 (by omega) id (H ++ [AO.lst 0 3 [], .lst 0 4 []]) (hid2 _) (by omega)
    have hP3 := pick_ok' L hL hlen (a + 1 + 1) (by omega) 3 (by omega) id (H ++ [AO.lst 0 3 [], .lst 0 4 [], .lst 0 3 [], .lst 0 4 [], .lst 0 3 [], .lst 0 4 []]) (hid2 _) (by omega)
    have hl : F law02_Maker_Level [.ptr id 0, .int .i64 3, .int .i64 2, .int .i64 3] ((H ++ [AO.lst 0 3 [], .lst 0 4 []]).set id (mkr L (a + 1))) = _ := level_ok L hL hlen 3 2 (by omega) (by omega) 2 (by omega) (a + 1) (by simp; omega) id (H ++ [AO.lst 0 3 [], .lst 0 4 []]) (hid2 _)
    have hr3 := pick_range hL (a + 1 + 1) (n := 3) (by omega)
    have hlo := levels_loop L hL hlen id H hid a (pickS L (a + 1) 4) [] (pickS L (a + 1 + 1) 3).toNat [] (a + 1 + 1 + 1) (by omega) (by simp; omega) (by omega)
    simp only [Int.toNat_of_nonneg hr3.1, List.length_nil, List.nil_append, Lv.css] at hlo
    have hk := pick_range hL a (n := 12) (by omega)
    rw [f_law13_Term, termS]
    generalize pickS L a 12 = k0 at *
    have h4 : ¬ (4 : Int) = 0 := by decide
    have h5 : ((0 : Nat) : Int) + 1 < 2 := by decide
    have h6 : k0.tmod 4 < 4 := by
      rw [Int.tmod_eq_emod_of_nonneg hk.1]; exact Int.emod_lt_of_pos _ (by omega)
    generalize hk4 : k0.tmod 4 = k at *
    have hc : (k < 2 ∧ 0 < v) ∨ (k < 2 ∧ ¬ 0 < v ∧ k < 3) ∨ (¬ k < 2 ∧ k < 3) ∨ (¬ k < 2 ∧ ¬ k < 3 ∧ k < 4) := by omega
    rcases hc with ⟨h7, h8⟩ | ⟨h7, h8, h9⟩ | ⟨h7, h8⟩ | ⟨h7, h8, h9⟩
    · simp only [↓reduceIte, go_sem, st_app, st_getN hid, st_get0 hid, st_setN hid, st_set0 hid, List.length_set, hid, lt_addr, st_fin hid, hP0, hPv, hP4, hP3, hl, hk4, h4, h5, h7, h8, Var13_ok, Sort13_ok, and_self, true_and]
    · simp only [↓reduceIte, go_sem, st_app, st_getN hid, st_get0 hid, st_setN hid, st_set0 hid, List.length_set, hid, lt_addr, st_fin hid, hP0, hPv, hP4, hP3, hl, hk4, h4, h5, h7, h8, h9, Var13_ok, Sort13_ok, and_self, and_false]
    · simp only [↓reduceIte, go_sem, st_app, st_getN hid, st_get0 hid, st_setN hid, st_set0 hid, List.length_set, hid, lt_addr, st_fin hid, hP0, hPv, hP4, hP3, hl, hk4, h4, h5, h7, h8, Var13_ok, Sort13_ok, and_self, false_and]
    · simp only [↓reduceIte, go_sem, st_app, st_getN hid, st_get0 hid, st_setN hid, st_set0 hid, List.length_set, hid, lt_addr, st_fin hid, hP0, hPv, hP4, hP3, hl, hk4, h4, h5, h7, h8, h9, Var13_ok, Sort13_ok, and_self, false_and]
      exact hlo
  | succ d ih =>
    intro hd v hv a ha id H hid
    have hpw : (4 : Int) ^ (d + 1 + 1) = 4 * 4 ^ (d + 1) := by rw [Int.pow_succ]; omega
    have hpw2 : (4 : Int) ^ (d + 1) = 4 * 4 ^ d := by rw [Int.pow_succ]; omega
    have hq : (1 : Int) ≤ 4 ^ d := Int.pow_pos (by decide)
    have hid2 : ∀ X : List AO, id < (H ++ X).length := fun X => by simp; omega
    have hP0 := pick_ok' L hL hlen a (by omega) 12 (by omega) id (H ++ [AO.lst 0 3 [], .lst 0 4 []]) (hid2 _) (by omega)
    have hPv := pick_ok' L hL hlen (a + 1) (by omega) v (by omega) id (H ++ [AO.lst 0 3 [], .lst 0 4 []]) (hid2 _)
    have hP4 := pick_ok' L hL hlen (a + 1) (by omega) 4 (by omega) id (H ++ [AO.lst 0 3 [], .lst 0 4 []]) (hid2 _) (by omega)
    have hP3 := pick_ok' L hL hlen (a + 1 + 1) (by omega) 3 (by omega) id (H ++ [AO.lst 0 3 [], .lst 0 4 [], .lst 0 3 [], .lst 0 4 [], .lst 0 3 [], .lst 0 4 []]) (hid2 _) (by omega)
    have hl : F law02_Maker_Level [.ptr id 0, .int .i64 3, .int .i64 2, .int .i64 3] ((H ++ [AO.lst 0 3 [], .lst 0 4 []]).set id (mkr L (a + 1))) = _ := level_ok L hL hlen 3 2 (by omega) (by omega) 2 (by omega) (a + 1) (by simp; omega) id (H ++ [AO.lst 0 3 [], .lst 0 4 []]) (hid2 _)
    have hr3 := pick_range hL (a + 1 + 1) (n := 3) (by omega)
    have hlo := levels_loop L hL hlen id H hid a (pickS L (a + 1) 4) [] (pickS L (a + 1 + 1) 3).toNat [] (a + 1 + 1 + 1) (by omega) (by simp; omega) (by omega)
    simp only [Int.toNat_of_nonneg hr3.1, List.length_nil, List.nil_append, Lv.css] at hlo
    have hk := pick_range hL a (n := 12) (by omega)
    have hT1 := termS_at hL (d + 1) v (a + 1)
    have hT2 := termS_at hL (d + 1) v (termS L (d + 1) v (a + 1)).2
    have hC1 := fun Y : List AO => ih (by omega) v (by omega) (a + 1) (by omega) id (H ++ Y) (hid2 _)
    have hC2 := fun Y : List AO => ih (by omega) v (by omega) (termS L (d + 1) v (a + 1)).2 (by omega) id (H ++ Y) (hid2 _)
    have hC3 := fun Y : List AO => ih (by omega) (v + 1) (by omega) (termS L (d + 1) v (a + 1)).2 (by omega) id (H ++ Y) (hid2 _)
    have hC4 := fun Y : List AO => ih (by omega) (v + 1) (by omega) (termS L (d + 1) v (termS L (d + 1) v (a + 1)).2).2 (by omega) id (H ++ Y) (hid2 _)
    have hd1 : ((d + 1 : Nat) : Int) + 1 - 1 = (d : Int) + 1 := by omega
    have hw1 : IntKind.i64.wrap ((d : Int) + 1) = (d : Int) + 1 := wrap64 (by omega) (by omega)
    have hw2 : IntKind.i64.wrap (v + 1) = v + 1 := wrap64 (by omega) (by omega)
    rw [f_law13_Term, termS]
    generalize pickS L a 12 = k at *
    have h4 : ¬ (4 : Int) = 0 := by decide
    have h5 : ¬ ((d + 1 : Nat) : Int) + 1 < 2 := by omega
    have h6 : ¬ d + 1 = 0 := by omega
    have hc : (k < 2 ∧ 0 < v) ∨ (k < 2 ∧ ¬ 0 < v ∧ k < 3) ∨ (¬ k < 2 ∧ k < 3) ∨ (¬ k < 2 ∧ ¬ k < 3 ∧ k < 4) ∨ (¬ k < 2 ∧ ¬ k < 3 ∧ ¬ k < 4 ∧ k < 7) ∨ (¬ k < 2 ∧ ¬ k < 3 ∧ ¬ k < 4 ∧ ¬ k < 7 ∧ k < 9) ∨ (¬ k < 2 ∧ ¬ k < 3 ∧ ¬ k < 4 ∧ ¬ k < 7 ∧ ¬ k < 9 ∧ k < 11) ∨ (¬ k < 2 ∧ ¬ k < 3 ∧ ¬ k < 4 ∧ ¬ k < 7 ∧ ¬ k < 9 ∧ ¬ k < 11) := by omega
    rcases hc with ⟨h7, h8⟩ | ⟨h7, h8, h9⟩ | ⟨h7, h8⟩ | ⟨h7, h8, h9⟩ | ⟨h7, h8, h9, h10⟩ | ⟨h7, h8, h9, h10, h11⟩ | ⟨h7, h8, h9, h10, h11, h12⟩ | ⟨h7, h8, h9, h10, h11, h12⟩
    · simp only [↓reduceIte, go_sem, st_app, st_getN hid, st_get0 hid, st_setN hid, st_set0 hid, List.length_set, hid, lt_addr, st_fin hid, hP0, hPv, hP4, hP3, hl, h4, h5, h6, h7, h8, Var13_ok, Sort13_ok, and_self, true_and]
    · simp only [↓reduceIte, go_sem, st_app, st_getN hid, st_get0 hid, st_setN hid, st_set0 hid, List.length_set, hid, lt_addr, st_fin hid, hP0, hPv, hP4, hP3, hl, h4, h5, h6, h7, h8, h9, Var13_ok, Sort13_ok, and_self, and_false]
    · simp only [↓reduceIte, go_sem, st_app, st_getN hid, st_get0 hid, st_setN hid, st_set0 hid, List.length_set, hid, lt_addr, st_fin hid, hP0, hPv, hP4, hP3, hl, h4, h5, h6, h7, h8, Var13_ok, Sort13_ok, and_self, false_and]
    · simp only [↓reduceIte, go_sem, st_app, st_getN hid, st_get0 hid, st_setN hid, st_set0 hid, List.length_set, hid, lt_addr, st_fin hid, hP0, hPv, hP4, hP3, hl, h4, h5, h6, h7, h8, h9, Var13_ok, Sort13_ok, and_self, false_and]
      exact hlo
    · simp only [↓reduceIte, go_sem, st_app, st_getN hid, st_get0 hid, st_setN hid, st_set0 hid, List.length_set, hid, lt_addr, st_fin hid, hP0, hPv, hP4, hP3, hl, h4, h5, h6, h7, h8, h9, h10, hd1, hw1, hw2, hC1, hC2, hC3, hC4, Bind13_ok, tfold2, tfold3, and_self, false_and]
    · simp only [↓reduceIte, go_sem, st_app, st_getN hid, st_get0 hid, st_setN hid, st_set0 hid, List.length_set, hid, lt_addr, st_fin hid, hP0, hPv, hP4, hP3, hl, h4, h5, h6, h7, h8, h9, h10, h11, hd1, hw1, hw2, hC1, hC2, hC3, hC4, Bind13_ok, tfold2, tfold3, and_self, false_and]
    · simp only [↓reduceIte, go_sem, st_app, st_getN hid, st_get0 hid, st_setN hid, st_set0 hid, List.length_set, hid, lt_addr, st_fin hid, hP0, hPv, hP4, hP3, hl, h4, h5, h6, h7, h8, h9, h10, h11, h12, hd1, hw1, hw2, hC1, hC2, hC3, hC4, Bind13_ok, tfold2, tfold3, and_self, false_and]
    · simp only [↓reduceIte, go_sem, st_app, st_getN hid, st_get0 hid, st_setN hid, st_set0 hid, List.length_set, hid, lt_addr, st_fin hid, hP0, hPv, hP4, hP3, hl, h4, h5, h6, h7, h8, h9, h10, h11, h12, hd1, hw1, hw2, hC1, hC2, hC3, hC4, Bind13_ok, tfold2, tfold3, and_self, false_and]
end Go.Ab
