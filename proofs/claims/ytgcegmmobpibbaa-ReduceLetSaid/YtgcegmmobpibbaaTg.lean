/- Terms by numbers. Conditions: none. -/
import Derived.Test.YtgcegmmobpibbaaTa
set_option linter.unusedVariables false
set_option linter.unusedSimpArgs false
set_option maxRecDepth 100000
set_option maxHeartbeats 2000000
namespace Go.Ab
open Go.RowKit Go.Proofs

theorem st_app {H Y : List AO} {id : Nat} {x : AO} (h : id < H.length) : H.set id x ++ Y = (H ++ Y).set id x := by rw [List.set_append_left _ _ h]
theorem st_getN {H Y : List AO} {id i : Nat} {x : AO} (h : id < H.length) : ((H ++ Y).set id x)[H.length + i]? = Y[i]? := by
  rw [List.getElem?_set_ne (by omega), app_getN]
theorem st_get0 {H Y : List AO} {id : Nat} {x : AO} (h : id < H.length) : ((H ++ Y).set id x)[H.length]? = Y[0]? := by
  rw [List.getElem?_set_ne (by omega), app_get0]
theorem st_setN {H Y : List AO} {id i : Nat} {x y : AO} (h : id < H.length) : ((H ++ Y).set id x).set (H.length + i) y = (H ++ Y.set i y).set id x := by
  rw [List.set_comm _ _ (by omega), app_setN]
theorem st_set0 {H Y : List AO} {id : Nat} {x y : AO} (h : id < H.length) : ((H ++ Y).set id x).set H.length y = (H ++ Y.set 0 y).set id x := by
  rw [List.set_comm _ _ (by omega), app_setZ]
theorem lt_addr {a b c : Nat} (h : a < b) : (a < b + c) = True := by simp; omega
open Classical in
theorem st_fin {H X : List AO} {r : Res} {id : Nat} {y : AO} {L : List Int} {b : Int} (h : id < H.length) : fin1F (H.set id y) r ((H ++ X).set id (mkr L b)) = if LtR H.length r then some (r, H.set id (mkr L b)) else none := by
  have e : (H ++ X).set id (mkr L b) = (H.set id y).set id (mkr L b) ++ X := by rw [set_set', st_app h]
  rw [e]
  have := fin1F_set (H := H.set id y) (X := X) (r := r) (id := id) (x := mkr L b) (mkr_lt _ L b)
  rw [this, List.length_set, set_set']

def levelsS (L : List Int) : Nat → Int → List Lv × Int
  | 0, a => ([], a)
  | i + 1, a => ((levelS L 3 2 2 a).1 :: (levelsS L i (levelS L 3 2 2 a).2).1, (levelsS L i (levelS L 3 2 2 a).2).2)
def termS (L : List Int) : Nat → Int → Int → Te × Int
  | 0, v, a => (.mk 1 0 [] [], a)
  | d + 1, v, a =>
    let k0 := pickS L a 12
    let k := if d = 0 then k0.tmod 4 else k0
    if k < 2 ∧ 0 < v then (.mk 1 (pickS L (a + 1) v) [] [], a + 1 + 1)
    else if k < 3 then (.mk 2 0 [(levelS L 3 2 3 (a + 1)).1] [], (levelS L 3 2 3 (a + 1)).2)
    else if k < 4 then (.mk 3 (pickS L (a + 1) 4) (levelsS L (pickS L (a + 1 + 1) 3).toNat (a + 1 + 1 + 1)).1 [], (levelsS L (pickS L (a + 1 + 1) 3).toNat (a + 1 + 1 + 1)).2)
    else
      let x := termS L d v (a + 1)
      if k < 7 then (.mk 4 0 [] [x.1, (termS L d v x.2).1], (termS L d v x.2).2)
      else if k < 9 then (.mk 5 0 [] [x.1, (termS L d (v + 1) x.2).1], (termS L d (v + 1) x.2).2)
      else if k < 11 then (.mk 6 0 [] [x.1, (termS L d (v + 1) x.2).1], (termS L d (v + 1) x.2).2)
      else (.mk 7 0 [] [x.1, (termS L d v x.2).1, (termS L d (v + 1) (termS L d v x.2).2).1], (termS L d (v + 1) (termS L d v x.2).2).2)
theorem levelsS_at (L : List Int) : ∀ (i : Nat) (a : Int), a ≤ (levelsS L i a).2 ∧ (levelsS L i a).2 ≤ a + 7 * i
  | 0, a => by simp [levelsS]
  | i + 1, a => by
    have h1 := levelS_at L 3 2 2 a
    have h2 := levelsS_at L i (levelS L 3 2 2 a).2
    rw [levelsS]
    simp at h1 ⊢
    omega
theorem termS_at {L : List Int} (hL : BytesOk L) : ∀ (d : Nat) (v a : Int), a ≤ (termS L d v a).2 ∧ (termS L d v a).2 ≤ a + 40 * 4 ^ d
  | 0, v, a => by simp [termS]; omega
  | d + 1, v, a => by
    have hp : (4 : Int) ^ (d + 1) = 4 * 4 ^ d := by rw [Int.pow_succ]; omega
    have hq : (1 : Int) ≤ 4 ^ d := Int.pow_pos (by decide)
    have h1 := levelS_at L 3 2 3 (a + 1)
    have h2 := pick_range hL (a + 1 + 1) (n := 3) (by omega)
    have h3 := levelsS_at L (pickS L (a + 1 + 1) 3).toNat (a + 1 + 1 + 1)
    have h4 := termS_at hL d v (a + 1)
    have h5 := termS_at hL d v (termS L d v (a + 1)).2
    have h6 := termS_at hL d (v + 1) (termS L d v (a + 1)).2
    have h7 := termS_at hL d (v + 1) (termS L d v (termS L d v (a + 1)).2).2
    simp only [Int.reducePow, Nat.reduceAdd] at h1
    rw [termS]
    dsimp only
    repeat' split
    all_goals (try dsimp only) <;> constructor <;> omega

theorem lcss_snoc (a : List Lv) (x : Lv) : Lv.css a ++ [x.cs] = Lv.css (a ++ [x]) := by rw [css_app]; rfl
end Go.Ab
