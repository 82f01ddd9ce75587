/- The statements on terms: what they are made of. Conditions: none. -/
import Derived.Test.YtnkblnmcabfbmaaTp
set_option linter.unusedVariables false
set_option linter.unusedSimpArgs false
set_option maxRecDepth 100000
set_option maxHeartbeats 2000000
namespace Go.Ab
open Go.RowKit Go.Proofs

theorem okL_mk (k n : Int) (ks : List Lv) : (Lv.mk k n ks).ok = (ks.length ≤ 140737488355328 ∧ ∀ x ∈ ks, x.ok) := propext ⟨fun h => ⟨h.len, h.all⟩, fun h => .mk h.1 h.2⟩
theorem okT_mk (k n : Int) (ls : List Lv) (ks : List Te) : (Te.mk k n ls ks).ok = (ks.length ≤ 140737488355328 ∧ ls.length ≤ 140737488355328 ∧ (∀ x ∈ ls, x.ok) ∧ ∀ x ∈ ks, x.ok) := propext ⟨fun h => ⟨h.len, h.len2, h.all2, h.all⟩, fun h => .mk h.1 h.2.1 h.2.2.1 h.2.2.2⟩
theorem lfold1 (x : Lv) : AV.sl [x.cs] = AV.sl (Lv.css [x]) := rfl
theorem lfold2 (x y : Lv) : AV.sl [x.cs, y.cs] = AV.sl (Lv.css [x, y]) := rfl
theorem tfold1 (x : Te) : AV.sl [x.cs] = AV.sl (Te.css [x]) := rfl
theorem tfold2 (x y : Te) : AV.sl [x.cs, y.cs] = AV.sl (Te.css [x, y]) := rfl
theorem tfold3 (x y z : Te) : AV.sl [x.cs, y.cs, z.cs] = AV.sl (Te.css [x, y, z]) := rfl
theorem lcs_fold (k n : Int) (ks : List Lv) : [.int .i64 k, .int .i64 n, .sl (Lv.css ks)] = (Lv.mk k n ks).cs := rfl
theorem lcs_fold0 (k n : Int) : [.int .i64 k, .int .i64 n, .sl []] = (Lv.mk k n []).cs := rfl
theorem tcs_d0 (k n : Int) (ls : List Lv) (ks : List Te) : rd 1 false (Te.mk k n ls ks).cs = some (.v (.int .i64 k)) := rfl
theorem tcs_d1 (k n : Int) (ls : List Lv) (ks : List Te) : List.drop 1 (Te.mk k n ls ks).cs = [.int .i64 n, .sl (Lv.css ls), .sl (Te.css ks)] := rfl
theorem tcs_d2 (k n : Int) (ls : List Lv) (ks : List Te) : List.drop 2 (Te.mk k n ls ks).cs = [.sl (Lv.css ls), .sl (Te.css ks)] := rfl
theorem tcs_d3 (k n : Int) (ls : List Lv) (ks : List Te) : List.drop 3 (Te.mk k n ls ks).cs = [.sl (Te.css ks)] := rfl
theorem toldT_ok {t : Te} (h : t.ok) : (toldT t).1.ok := by
  unfold toldT
  split
  · exact h
  · simp [zeroT, okT_mk]
theorem LiftS_ok {t : Te} (h : t.ok) (f b : Int) : (LiftS t f b).1.ok := by
  unfold LiftS
  split
  · simp [zeroT, okT_mk]
  · exact toldT_ok (lift_ok b t h f)
theorem OpenS_ok {t u : Te} (h : t.ok) (hu : u.ok) : (OpenS t u).1.ok := by
  unfold OpenS
  split
  · simp [zeroT, okT_mk]
  · exact toldT_ok (open_ok u hu t h 0)

mutual
theorem lvEq_refl : ∀ a : Lv, lvEq a a = true
  | .mk k n ks => by rw [lvEq, lvsEq_refl ks]; simp
theorem lvsEq_refl : ∀ a : List Lv, lvsEq a a = true
  | [] => rfl
  | x :: r => by rw [lvsEq, lvEq_refl x, lvsEq_refl r]; rfl
end
mutual
theorem teEq_refl : ∀ a : Te, teEq a a = true
  | .mk k n ls ks => by rw [teEq, lvsEq_refl ls, tesEq_refl ks]; simp
theorem tesEq_refl : ∀ a : List Te, tesEq a a = true
  | [] => rfl
  | x :: r => by rw [tesEq, teEq_refl x, tesEq_refl r]; rfl
end

theorem Var13_ok (n : Int) (H : List AO) : F law13_Var [.int .i64 n] H = some (.ret (.agg (Te.mk 1 n [] []).cs), H) := by
  rw [f_law13_Var]
  simp only [↓reduceIte, go_sem, Te.cs, Lv.css, Te.css]
theorem Sort13_ok (l : Lv) (H : List AO) : F law13_Sort [.agg l.cs] H = some (.ret (.agg (Te.mk 2 0 [l] []).cs), H) := by
  rw [f_law13_Sort]
  simp only [↓reduceIte, go_sem, Te.cs, Lv.css, Te.css]
theorem Bind13_ok (k : Int) (ks : List Te) (H : List AO) : F law13_Bind [.int .i64 k, .sl (Te.css ks)] H = some (.ret (.agg (Te.mk k 0 [] ks).cs), H) := by
  rw [f_law13_Bind]
  simp only [↓reduceIte, go_sem, Te.cs, Lv.css]

theorem told13_ok (t u : Te) (ht : t.ok) (hu : u.ok) (f b : Int) (H : List AO) : F law13_told [.agg t.cs, .agg u.cs, .int .i64 f, .int .i64 b] H = some (.ret (.bool true), H) := by
  rw [f_law13_told]
  cases hS : ShapeB t with
  | true =>
    have h1 := shape_inv hS
    have hF := fun H => freeP_ok 5 10 t ht 1000 30 h1 (by omega) (by omega) H
    have hG := fun H => free13_ok 5 10 t ht 1000 30 h1 (by omega) (by omega) H
    simp only [↓reduceIte, go_sem, LiftP_ok t ht, Lift13_ok t ht, OpenP_ok t u ht hu, Open13_ok t u ht hu, same13_ok _ (LiftS_ok ht f b), same13_ok _ (OpenS_ok ht hu), sameTP_ok t ht, same13_ok t ht, teEq_refl, RightTP_ok t ht, RightT13_ok t ht, Shape13_ok t ht, hS, hF, hG, beq_self_eq_true]
  | false =>
    simp only [↓reduceIte, go_sem, LiftP_ok t ht, Lift13_ok t ht, OpenP_ok t u ht hu, Open13_ok t u ht hu, same13_ok _ (LiftS_ok ht f b), same13_ok _ (OpenS_ok ht hu), sameTP_ok t ht, same13_ok t ht, teEq_refl, RightTP_ok t ht, RightT13_ok t ht, Shape13_ok t ht, hS, beq_self_eq_true]
theorem awake13_ok (H : List AO) : F law13_awake [] H = some (.ret (.bool true), H) := by
  have hs : ∀ H, F law13_Sort [.agg [.int .i64 1, .int .i64 0, .sl []]] H = some (.ret (.agg (Te.mk 2 0 [.mk 1 0 []] []).cs), H) := fun H => Sort13_ok (.mk 1 0 []) H
  have o1 : (Te.mk 5 0 [] [.mk 1 0 [] [], .mk 1 1 [] []]).ok := by simp [okT_mk]
  have o2 : (Te.mk 2 0 [.mk 1 0 []] []).ok := by simp [okT_mk, okL_mk]
  have o3 : (Te.mk 5 0 [] [.mk 2 0 [.mk 1 0 []] [], .mk 2 0 [.mk 1 0 []] []]).ok := by simp [okT_mk, okL_mk]
  have o4 : (Te.mk 5 0 [] [.mk 1 2 [] [], .mk 1 3 [] []]).ok := by simp [okT_mk]
  have e1 : OpenS (Te.mk 5 0 [] [.mk 1 0 [] [], .mk 1 1 [] []]) (Te.mk 2 0 [.mk 1 0 []] []) = (Te.mk 5 0 [] [.mk 2 0 [.mk 1 0 []] [], .mk 2 0 [.mk 1 0 []] []], 0) := by rfl
  have e2 : LiftS (Te.mk 5 0 [] [.mk 1 0 [] [], .mk 1 1 [] []]) 0 2 = (Te.mk 5 0 [] [.mk 1 2 [] [], .mk 1 3 [] []], 0) := by rfl
  have e3 : LiftS (Te.mk 5 0 [] [.mk 1 0 [] [], .mk 1 1 [] []]) 0 (-1) = (zeroT, 1) := by rfl
  have e4 : RightT (Te.mk 5 0 [] [.mk 1 0 [] [], .mk 1 1 [] []]) 1 0 0 = true := by rfl
  have e5 : RightT (Te.mk 5 0 [] [.mk 1 0 [] [], .mk 1 1 [] []]) 0 0 0 = false := by rfl
  have e6 : teEq (Te.mk 5 0 [] [.mk 1 0 [] [], .mk 1 1 [] []]) (Te.mk 5 0 [] [.mk 2 0 [.mk 1 0 []] [], .mk 2 0 [.mk 1 0 []] []]) = false := by rfl
  have e7 : freeT (Te.mk 5 0 [] [.mk 1 0 [] [], .mk 1 1 [] []]) = 1 := by rfl
  have e8 : freeT (Te.mk 5 0 [] [.mk 2 0 [.mk 1 0 []] [], .mk 2 0 [.mk 1 0 []] []]) = 0 := by rfl
  have f1 := freeP_ok 5 10 _ o1 1000 30 (by rfl) (by omega) (by omega)
  have f2 := freeP_ok 5 10 _ o3 1000 30 (by rfl) (by omega) (by omega)
  rw [f_law13_awake]
  simp only [↓reduceIte, go_sem, Var13_ok, hs, Bind13_ok, tfold1, tfold2, OpenP_ok _ _ o1 o2, LiftP_ok _ o1, e1, e2, e3, e4, e5, e6, e7, e8, same13_ok _ o3, same13_ok _ o4, teEq_refl, RightTP_ok _ o1, sameTP_ok _ o1, f1, f2]
end Go.Ab
