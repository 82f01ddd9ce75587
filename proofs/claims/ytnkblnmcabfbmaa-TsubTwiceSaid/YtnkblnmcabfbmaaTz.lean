/- Made terms: right, and small; the stage's theorems. Conditions: none. -/
import Derived.Test.YtnkblnmcabfbmaaTq
import Derived.Test.YtnkblnmcabfbmaaTh
set_option linter.unusedVariables false
set_option linter.unusedSimpArgs false
set_option maxRecDepth 100000
set_option maxHeartbeats 2000000
namespace Go.Ab
open Go.RowKit Go.Proofs

/-! Levels by numbers are right -/
mutual
def lsz : Lv → Nat
  | .mk _ _ ks => 1 + lszs ks
def lszs : List Lv → Nat
  | [] => 0
  | x :: r => lsz x + lszs r
end
mutual
theorem nodes_lsz : ∀ (l : Lv) (most : Int), nodes l most ≤ lsz l
  | .mk _ _ ks, most => by
    have := nodes_lszs ks most 1
    rw [nodes, lsz]; omega
theorem nodes_lszs : ∀ (ks : List Lv) (most n : Int), nodesL ks most n ≤ n + lszs ks
  | [], _, n => by rw [nodesL, lszs]; omega
  | x :: r, most, n => by
    have h1 := nodes_lsz x (most - n)
    have h2 := nodes_lszs r most (n + nodes x (most - n))
    rw [nodesL, lszs]
    split <;> omega
end
theorem levelS_sz (L : List Int) (p m : Int) : ∀ (d : Nat) (a : Int), lsz (levelS L p m d a).1 + 1 ≤ 2 ^ (d + 1)
  | 0, a => by simp [levelS, lsz, lszs]
  | d + 1, a => by
    have h := levelS_sz L p m d
    have hp : 2 ^ (d + 1 + 1) = 2 * 2 ^ (d + 1) := by rw [Nat.pow_succ]; omega
    have h1 := h (a + 1)
    have h2 := h (levelS L p m d (a + 1)).2
    rw [levelS]
    repeat' split
    all_goals (try dsimp only) <;> simp only [lsz, lszs] <;> omega
theorem levelS_right {L : List Int} (hL : BytesOk L) {p m P M : Int} (hp : p ≤ P) (hm : m ≤ M) : ∀ (d : Nat) (a e : Int), d + 1 ≤ e → rightB P M (levelS L p m d a).1 e = true
  | 0, a, e, he => by rw [levelS]; simp [rightB, rightsB, kids02]; omega
  | d + 1, a, e, he => by
    have h := fun a => levelS_right hL hp hm d a (e - 1) (by omega)
    rw [levelS]
    have e1 : ¬ e < 1 := by omega
    have p1 : 0 < p → 0 ≤ pickS L (a + 1) p ∧ pickS L (a + 1) p < p := fun h => pick_range hL _ h
    have p2 : 0 < m → 0 ≤ pickS L (a + 1) m ∧ pickS L (a + 1) m < m := fun h => pick_range hL _ h
    repeat' split
    all_goals simp [rightB, rightsB, kids02, h, e1]
    all_goals omega
theorem levelS_RightB {L : List Int} (hL : BytesOk L) {p m : Int} (hp : p ≤ 5) (hm : m ≤ 10) (d : Nat) (hd : d ≤ 5) (a : Int) : RightB (levelS L p m d a).1 5 10 = true := by
  have h1 := levelS_right hL hp hm d a 12 (by omega)
  have h2 := levelS_sz L p m d a
  have h3 := nodes_lsz (levelS L p m d a).1 101
  have h4 : 2 ^ (d + 1) ≤ 2 ^ 6 := Nat.pow_le_pow_right (by omega) (by omega)
  unfold RightB
  simp [h1]; omega
theorem levelsS_RightB {L : List Int} (hL : BytesOk L) : ∀ (i : Nat) (a : Int), (levelsS L i a).1.all (fun x => RightB x 5 10) = true
  | 0, a => rfl
  | i + 1, a => by
    rw [levelsS]
    simp only [List.all_cons, levelS_RightB hL (show (3 : Int) ≤ 5 by omega) (show (2 : Int) ≤ 10 by omega) 2 (by omega) a, levelsS_RightB hL i, Bool.and_self]

/-! Terms by numbers are right, and small -/
theorem termS_right {L : List Int} (hL : BytesOk L) : ∀ (d : Nat) (v a : Int), 0 ≤ v → rightT 5 10 (termS L (d + 1) v a).1 v (d + 1) = true := by
  intro d
  induction d with
  | zero =>
    intro v a hv
    have hl := levelS_RightB hL (show (3 : Int) ≤ 5 by omega) (show (2 : Int) ≤ 10 by omega) 3 (by omega) (a + 1)
    have hls := levelsS_RightB hL (pickS L (a + 1 + 1) 3).toNat (a + 1 + 1 + 1)
    have hln := (levelsS_ok L (pickS L (a + 1 + 1) 3).toNat (a + 1 + 1 + 1)).1
    have hp3 := pick_range hL (a + 1 + 1) (n := 3) (by omega)
    have hp4 := pick_range hL (a + 1) (n := 4) (by omega)
    have hpv : 0 < v → 0 ≤ pickS L (a + 1) v ∧ pickS L (a + 1) v < v := fun h => pick_range hL _ h
    have hk := pick_range hL a (n := 12) (by omega)
    rw [termS]
    dsimp only
    rw [if_pos rfl]
    generalize pickS L a 12 = k0 at *
    have hk4 : k0.tmod 4 < 4 := by rw [Int.tmod_eq_emod_of_nonneg hk.1]; omega
    generalize k0.tmod 4 = k at *
    split
    · rename_i h; simp [rightT, rightTs, kids13, namedB]; exact hpv h.2
    split
    · simp [rightT, rightTs, kids13, namedB, hl]
    · simp [rightT, rightTs, kids13, namedB, hln]; exact ⟨by simpa using hls, by omega⟩
  | succ d ih =>
    intro v a hv
    have hl := levelS_RightB hL (show (3 : Int) ≤ 5 by omega) (show (2 : Int) ≤ 10 by omega) 3 (by omega) (a + 1)
    have hls := levelsS_RightB hL (pickS L (a + 1 + 1) 3).toNat (a + 1 + 1 + 1)
    have hln := (levelsS_ok L (pickS L (a + 1 + 1) 3).toNat (a + 1 + 1 + 1)).1
    have hp3 := pick_range hL (a + 1 + 1) (n := 3) (by omega)
    have hp4 := pick_range hL (a + 1) (n := 4) (by omega)
    have hpv : 0 < v → 0 ≤ pickS L (a + 1) v ∧ pickS L (a + 1) v < v := fun h => pick_range hL _ h
    have i1 := fun a => ih v a hv
    have i2 := fun a => ih (v + 1) a (by omega)
    have hd : ¬ (((d + 1 : Nat) : Int) + 1 < 1) := by omega
    have hd' : ¬ ((d : Int) + 1 + 1 < 1) := by omega
    have hd2 : ((d + 1 : Nat) : Int) + 1 - 1 = (d : Int) + 1 := by omega
    rw [termS]
    dsimp only
    rw [if_neg (show ¬ (d + 1 = 0) by omega)]
    generalize pickS L a 12 = k at *
    split
    · rename_i h; simp [rightT, rightTs, kids13, namedB, hd, hd']; exact hpv h.2
    split
    · simp [rightT, rightTs, kids13, namedB, hl, hd, hd']
    split
    · simp [rightT, rightTs, kids13, namedB, hln, hd, hd']; exact ⟨by simpa using hls, by omega⟩
    split
    · simp only [rightT, rightTs, kids13, namedB, hd, hd2]; simp [binds, i1, i2]
    split
    · simp only [rightT, rightTs, kids13, namedB, hd, hd2]; simp [binds, i1, i2]
    split
    · simp only [rightT, rightTs, kids13, namedB, hd, hd2]; simp [binds, i1, i2]
    · simp only [rightT, rightTs, kids13, namedB, hd, hd2]; simp [binds, i1, i2]
def wS (x : Nat) : Nat → Nat
  | 0 => x
  | d + 1 => 1 + 3 * wS x d
theorem wS_pos {x : Nat} (hx : 1 ≤ x) : ∀ d, 1 ≤ wS x d
  | 0 => hx
  | d + 1 => by rw [wS]; omega
theorem wS_ge {x : Nat} : ∀ d, x ≤ wS x d
  | 0 => Nat.le_refl _
  | d + 1 => by have := wS_ge (x := x) d; rw [wS]; omega
theorem termS_wt {L : List Int} (hL : BytesOk L) {x : Nat} (hx : 1 ≤ x) : ∀ (d : Nat) (v a : Int), wt x (termS L (d + 1) v a).1 ≤ wS x d := by
  intro d
  induction d with
  | zero =>
    intro v a
    have hk := pick_range hL a (n := 12) (by omega)
    rw [termS]
    dsimp only
    rw [if_pos rfl]
    generalize pickS L a 12 = k0 at *
    have hk4 : k0.tmod 4 < 4 := by rw [Int.tmod_eq_emod_of_nonneg hk.1]; omega
    generalize k0.tmod 4 = k at *
    split
    · simp [wt, wts, wS]
    split
    · simp [wt, wts, wS]; omega
    · simp [wt, wts, wS]; omega
  | succ d ih =>
    intro v a
    have g1 := wS_pos hx d
    have g2 := wS_ge (x := x) d
    have j1 := ih v (a + 1)
    have j2 := ih v (termS L (d + 1) v (a + 1)).2
    have j3 := ih (v + 1) (termS L (d + 1) v (a + 1)).2
    have j4 := ih (v + 1) (termS L (d + 1) v (termS L (d + 1) v (a + 1)).2).2
    rw [termS]
    dsimp only
    rw [if_neg (show ¬ (d + 1 = 0) by omega)]
    generalize pickS L a 12 = k at *
    split
    · simp [wt, wts]; rw [wS]; omega
    split
    · simp [wt, wts]; try (rw [wS]; omega)
    split
    · simp [wt, wts]; try (rw [wS]; omega)
    split
    · simp [wt, wts]; rw [wS]; omega
    split
    · simp [wt, wts]; rw [wS]; omega
    split
    · simp [wt, wts]; rw [wS]; omega
    · simp [wt, wts]; rw [wS]; omega
end Go.Ab
