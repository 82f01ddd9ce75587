/- The statement on terms by numbers. Conditions: none. -/
import Derived.Test.YtgcegmmobpibbaaTg
import Derived.Test.YtgcegmmobpibbaaLw
set_option linter.unusedVariables false
set_option linter.unusedSimpArgs false
set_option maxRecDepth 100000
set_option maxHeartbeats 2000000
namespace Go.Ab
open Go.RowKit Go.Proofs

theorem levelS_ok (L : List Int) (p m : Int) : ∀ (d : Nat) (a : Int), (levelS L p m d a).1.ok
  | 0, a => by rw [levelS]; simp [okL_mk]
  | d + 1, a => by
    have h := levelS_ok L p m d
    rw [levelS]
    repeat' split
    all_goals simp [okL_mk, h]
theorem levelsS_ok (L : List Int) : ∀ (i : Nat) (a : Int), (levelsS L i a).1.length = i ∧ ∀ x ∈ (levelsS L i a).1, x.ok
  | 0, a => by simp [levelsS]
  | i + 1, a => by
    have h := levelsS_ok L i
    rw [levelsS]
    refine ⟨by simp [h], ?_⟩
    intro x hx
    simp at hx
    rcases hx with rfl | hx
    · exact levelS_ok _ _ _ _ _
    · exact (h _).2 x hx
theorem termS_ok {L : List Int} (hL : BytesOk L) : ∀ (d : Nat) (v a : Int), (termS L d v a).1.ok
  | 0, v, a => by rw [termS]; simp [okT_mk]
  | d + 1, v, a => by
    have h := fun v a => termS_ok hL d v a
    have h3 := levelsS_ok L (pickS L (a + 1 + 1) 3).toNat (a + 1 + 1 + 1)
    have h2 := pick_range hL (a + 1 + 1) (n := 3) (by omega)
    rw [termS]
    dsimp only
    repeat' split
    all_goals simp [okT_mk, h, levelS_ok]
    all_goals exact ⟨by omega, h3.2⟩
def made13S (L : List Int) : Te := (termS L 4 3 0).1
theorem made13S_ok {L : List Int} (hL : BytesOk L) : (made13S L).ok := termS_ok hL _ _ _
@[go_sem] theorem lt_ol {n id v : Nat} : Lt n (.ol id v) = (id < n) := propext ⟨fun h => by cases h; assumption, .ol⟩
theorem Bind13_ol (k : Int) (id v : Nat) (H : List AO) (hid : id < H.length) : F law13_Bind [.int .i64 k, .ol id v] H = some (.ret (.agg [.int .i64 k, .int .i64 0, .sl [], .ol id v]), H) := by
  rw [f_law13_Bind]
  have h2 : ¬ H.length ≤ id := by omega
  simp only [↓reduceIte, go_sem, hid, h2]
theorem set4_tcs (x : Te) (a b c d : AV) : (((x.cs.set 0 a).set 1 b).set 2 c).set 3 d = [a, b, c, d] := by cases x; rfl
end Go.Ab
