/- Layer 15: the plain law: levels put in twice, and ahead of terms. Conditions: none. -/
import Derived.Test.YtnkblnmcabfbmaaSd
import Derived.Test.YtnkblnmcabfbmaaTz
set_option linter.unusedVariables false
set_option linter.unusedSimpArgs false
set_option maxRecDepth 100000
set_option maxHeartbeats 2000000
namespace Go.Ab
open Go.RowKit Go.Proofs

mutual
theorem subL_twice (a b : List Lv) (hab : b.length ≤ a.length) : ∀ l : Lv, subL b [] (subL a [] l) = subL (a.map (subL b [])) [] l
  | .mk k n ks => by
    by_cases h5 : k = 5
    · subst h5
      have hb : ∀ (ps : List Lv), byL ps [] 5 n = ps[n.toNat]? := fun ps => rfl
      rw [subL, hb, subL, hb, List.getElem?_map]
      cases h : a[n.toNat]? with
      | some x => rfl
      | none =>
        have : b[n.toNat]? = none := by
          rw [List.getElem?_eq_none_iff] at h ⊢; omega
        simp only [Option.map_none]
        rw [subL, hb, this]
        dsimp only
        rw [subLs_twice a b hab ks]
    · have hb : ∀ (ps : List Lv), byL ps [] k n = none := fun ps => by
        unfold byL; rw [if_neg h5]; split <;> simp
      rw [subL, hb, subL, hb]
      dsimp only
      rw [subL, hb]
      dsimp only
      rw [subLs_twice a b hab ks]
theorem subLs_twice (a b : List Lv) (hab : b.length ≤ a.length) : ∀ ks : List Lv, subLs b [] (subLs a [] ks) = subLs (a.map (subL b [])) [] ks
  | [] => rfl
  | x :: r => by rw [subLs, subLs, subLs, subL_twice a b hab x, subLs_twice a b hab r]
end
theorem SubS_zero {l : Lv} {ps ms : List Lv} (h : (SubS l ps ms).2 = 0) : (SubS l ps ms).1 = subL ps ms l ∧ RightB (subL ps ms l) 5 10 = true := by
  unfold SubS at h ⊢
  split at h
  · simp at h
  · rename_i g
    rw [if_neg g]
    split at h
    · rename_i g2; rw [if_pos g2]; exact ⟨rfl, g2⟩
    · simp at h
mutual
theorem subT_twice (a b : List Lv) (hab : b.length ≤ a.length) : ∀ t : Te, okTm a [] t = true → okTm b [] (subT a [] t) = true → okTm (a.map (subL b [])) [] t = true → subT b [] (subT a [] t) = subT (a.map (subL b [])) [] t
  | .mk k n ls ks, h1, h2, h3 => by
    rw [okTm, Bool.and_eq_true] at h1 h3
    rw [subT, okTm, Bool.and_eq_true] at h2
    rw [subT, subT, subT, List.map_map, subTs_twice a b hab ks h1.2 h2.2 h3.2]
    congr 1
    apply List.map_congr_left
    intro l hl
    have e1 := List.all_eq_true.1 h1.1 l hl
    have e2 := List.all_eq_true.1 h2.1 (SubS l a []).1 (List.mem_map.2 ⟨l, hl, rfl⟩)
    have e3 := List.all_eq_true.1 h3.1 l hl
    simp only [decide_eq_true_eq] at e1 e2 e3
    show (SubS (SubS l a []).1 b []).1 = _
    rw [(SubS_zero e2).1, (SubS_zero e1).1, (SubS_zero e3).1, subL_twice a b hab l]
theorem subTs_twice (a b : List Lv) (hab : b.length ≤ a.length) : ∀ ks : List Te, okTms a [] ks = true → okTms b [] (subTs a [] ks) = true → okTms (a.map (subL b [])) [] ks = true → subTs b [] (subTs a [] ks) = subTs (a.map (subL b [])) [] ks
  | [], _, _, _ => rfl
  | x :: r, h1, h2, h3 => by
    rw [okTms, Bool.and_eq_true] at h1 h3
    rw [subTs, okTms, Bool.and_eq_true] at h2
    rw [subTs, subTs, subTs, subT_twice a b hab x h1.1 h2.1 h3.1, subTs_twice a b hab r h1.2 h2.2 h3.2]
end
mutual
theorem sub_lift (ps ms : List Lv) (b : Int) : ∀ (t : Te) (f : Int), subT ps ms (liftT b t f) = liftT b (subT ps ms t) f
  | .mk k n ls ks, f => by rw [liftT, subT, subT, liftT, subs_lift ps ms b k ks 0 f]
theorem subs_lift (ps ms : List Lv) (b k : Int) : ∀ (ks : List Te) (i f : Int), subTs ps ms (liftTs b k ks i f) = liftTs b k (subTs ps ms ks) i f
  | [], _, _ => rfl
  | x :: r, i, f => by rw [liftTs, subTs, subTs, liftTs, sub_lift ps ms b x, subs_lift ps ms b k r]
end
mutual
theorem sub_open (ps ms : List Lv) (u : Te) : ∀ (t : Te) (f : Int), subT ps ms (openT u t f) = openT (subT ps ms u) (subT ps ms t) f
  | .mk k n ls ks, f => by
    rw [openT, subT, openT]
    split
    · exact sub_lift ps ms f u 0
    · rw [subT, subs_open ps ms u k ks 0 f]
theorem subs_open (ps ms : List Lv) (u : Te) (k : Int) : ∀ (ks : List Te) (i f : Int), subTs ps ms (openTs u k ks i f) = openTs (subT ps ms u) k (subTs ps ms ks) i f
  | [], _, _ => rfl
  | x :: r, i, f => by rw [openTs, subTs, subTs, openTs, sub_open ps ms u x, subs_open ps ms u k r]
end
end Go.Ab
