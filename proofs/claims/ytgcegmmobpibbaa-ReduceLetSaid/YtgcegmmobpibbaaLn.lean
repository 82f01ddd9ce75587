/- What is named in a level, from the left on. Conditions: none. -/
import Derived.Test.YtgcegmmobpibbaaIt
set_option linter.unusedVariables false
set_option linter.unusedSimpArgs false
set_option maxRecDepth 100000
set_option maxHeartbeats 2000000
namespace Go.Ab
open Go.RowKit Go.Proofs

mutual
def namesL (kind : Int) : Lv → List Int
  | .mk k n ks => if k = kind then [n] else namesLs kind ks
def namesLs (kind : Int) : List Lv → List Int
  | [] => []
  | x :: r => namesL kind x ++ namesLs kind r
end
abbrev encI (n : Int) : List AV := [.int .i64 n]
theorem lcs_cells (l : Lv) : (AV.agg l.cs).cellsN (AV.agg l.cs).cells.length = some l.cs := by cases l; rfl
theorem fin1_mid {A A' W Z : List AO} {o o' : AO} {r : Res} (hlen : A'.length = A.length) (hfr : ∀ (id : Nat) (x : AO), A'[id]? = some x → A[id]? = some x ∨ LtO A.length x) (ho : LtO (A ++ (W ++ o :: Z)).length o') (hr : LtR (A ++ (W ++ o :: Z)).length r) :
    fin1F (A ++ (W ++ o :: Z)) r (A' ++ (W ++ o' :: Z)) = some (r, A' ++ (W ++ o' :: Z)) := by
  unfold fin1F
  have e : (A' ++ (W ++ o' :: Z)).take (A ++ (W ++ o :: Z)).length = A' ++ (W ++ o' :: Z) := List.take_of_length_le (by simp [hlen])
  have hc : ∀ (id : Nat) (x : AO), (A' ++ (W ++ o' :: Z))[id]? = some x → id < (A ++ (W ++ o :: Z)).length → (A ++ (W ++ o :: Z))[id]? = some x ∨ LtO (A ++ (W ++ o :: Z)).length x := by
    intro id x hx hi
    by_cases h1 : id < A'.length
    · rw [List.getElem?_append_left h1] at hx
      rcases hfr id x hx with k | k
      · exact .inl (by rw [List.getElem?_append_left (by omega)]; exact k)
      · exact .inr (k.mono (by simp))
    · rw [List.getElem?_append_right (by omega)] at hx
      rw [List.getElem?_append_right (by omega), ← hlen]
      by_cases h2 : id - A'.length < W.length
      · rw [List.getElem?_append_left h2] at hx ⊢; exact .inl hx
      · rw [List.getElem?_append_right (by omega)] at hx ⊢
        cases h3 : id - A'.length - W.length with
        | zero => rw [h3] at hx; simp at hx; subst hx; exact .inr ho
        | succ j => rw [h3] at hx; simp at hx ⊢; exact .inl hx
  rw [if_pos ⟨hr, hc⟩, e]

theorem mid_get {A W Z : List AO} {o : AO} : (A ++ (W ++ o :: Z))[A.length + W.length]? = some o := by
  rw [List.getElem?_append_right (by omega), List.getElem?_append_right (by omega)]; simp
theorem mid_set {A W Z : List AO} {o p : AO} : (A ++ (W ++ o :: Z)).set (A.length + W.length) p = A ++ (W ++ p :: Z) := by
  rw [List.set_append_right _ _ (by omega), List.set_append_right _ _ (by omega)]; simp
end Go.Ab
