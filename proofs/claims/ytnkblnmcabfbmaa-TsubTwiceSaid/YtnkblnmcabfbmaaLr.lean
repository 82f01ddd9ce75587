/- The statements on levels put in the place of others. Conditions: none. -/
import Derived.Test.YtnkblnmcabfbmaaLq
import Derived.Test.YtnkblnmcabfbmaaTz
set_option linter.unusedVariables false
set_option linter.unusedSimpArgs false
set_option maxRecDepth 100000
set_option maxHeartbeats 2000000
namespace Go.Ab
open Go.RowKit Go.Proofs

mutual
theorem names_lsz (kind : Int) : ∀ l : Lv, (namesL kind l).length ≤ lsz l
  | .mk k n ks => by
    rw [namesL, lsz]
    split
    · simp
    · have := names_lszs kind ks; omega
theorem names_lszs (kind : Int) : ∀ ks : List Lv, (namesLs kind ks).length ≤ lszs ks
  | [] => by simp [namesLs, lszs]
  | x :: r => by
    have h1 := names_lsz kind x
    have h2 := names_lszs kind r
    rw [namesLs, lszs, List.length_append]; omega
end
mutual
theorem lsz_of : ∀ (l : Lv) (most : Int), nodes l most < most → (lsz l : Int) = nodes l most
  | .mk _ _ ks, most, h => by
    rw [nodes] at h ⊢
    have := lszs_of ks most 1 h
    rw [lsz]; omega
theorem lszs_of : ∀ (ks : List Lv) (most n : Int), nodesL ks most n < most → n + (lszs ks : Int) = nodesL ks most n
  | [], most, n, _ => by rw [nodesL, lszs]; omega
  | x :: r, most, n, h => by
    have h0 : n < most := by have := nodesL_le (x :: r) most n; omega
    rw [nodesL, if_pos h0] at h ⊢
    have h2 := nodesL_le r most (n + nodes x (most - n))
    have h1 := lsz_of x (most - n) (by omega)
    have h3 := lszs_of r most (n + nodes x (most - n)) h
    rw [lszs]; omega
end
theorem RightB_lsz {l : Lv} {p m : Int} (h : RightB l p m = true) : lsz l ≤ 100 := by
  unfold RightB at h
  simp only [Bool.and_eq_true, decide_eq_true_eq] at h
  have := lsz_of l 101 (by omega)
  omega
theorem names_len {l : Lv} {p m : Int} (h : RightB l p m = true) (kind : Int) : (namesL kind l).length ≤ 1073741824 := by
  have := RightB_lsz h
  have := names_lsz kind l
  omega

def intsB : List Int → List Int → Bool
  | [], [] => true
  | x :: l, y :: m => decide (x = y) && intsB l m
  | _, _ => false
theorem intsB_refl : ∀ a : List Int, intsB a a = true
  | [] => rfl
  | x :: r => by rw [intsB, intsB_refl r]; simp
theorem intsB_len : ∀ {l m : List Int}, l.length ≠ m.length → intsB l m = false
  | [], [], h => absurd rfl h
  | [], _ :: _, _ => by rw [intsB]; all_goals simp
  | _ :: _, [], _ => by rw [intsB]; all_goals simp
  | x :: l, y :: m, h => by rw [intsB, intsB_len (l := l) (m := m) (by simpa using h)]; simp
theorem ints05_ok (a b : List Int) (hlen : a.length ≤ 140737488355328) (H : List AO) : F law05_ints [.sl (i64s a), .sl (i64s b)] H = some (.ret (.bool (intsB a b)), H) := by
  have loop : a.length = b.length → ∀ (suf pre suf' pre' : List Int), a = pre ++ suf → b = pre' ++ suf' → pre.length = pre'.length →
      L_law05_ints_0 H H (.sl (i64s a)) (.sl (i64s b)) (.int .i64 pre.length) = some (.ret (.bool (intsB suf suf')), H) := by
    intro hll suf
    induction suf with
    | nil =>
      intro pre suf' pre' e e' he
      subst e
      subst e'
      have : suf' = [] := List.eq_nil_of_length_eq_zero (by simp at hll; omega)
      subst this
      rw [L_law05_ints_0, awL_eq]
      simp only [↓reduceIte, go_sem, intsB]
    | cons x suf ih2 =>
      intro pre suf' pre' e e' he
      subst e
      subst e'
      simp at hlen
      cases suf' with
      | nil => simp at hll; omega
      | cons y suf' =>
      have hy : (pre' ++ y :: suf')[pre.length]? = some y := by rw [he]; simp
      have := ih2 (pre ++ [x]) suf' (pre' ++ [y]) (by simp) (by simp) (by simp [he])
      simp only [len_app] at this
      rw [L_law05_ints_0, awL_eq, intsB]
      by_cases hxy : x = y
      · simp only [↓reduceIte, go_sem, hy, hxy, nat_wrap (n := pre.length) (by omega)]
        subst hxy
        simp only [this, decide_true, Bool.true_and]
      · simp only [↓reduceIte, go_sem, hy, hxy, decide_false, Bool.false_and]
  rw [f_law05_ints]
  by_cases h3 : a.length = b.length
  · have := loop h3 a [] b [] rfl rfl rfl
    simp only [List.length_nil, Int.natCast_zero] at this
    have h3' : (a.length : Int) = b.length := by omega
    simp only [↓reduceIte, go_sem, h3', not_true_eq_false, this]
  · have h3' : ¬ (a.length : Int) = (b.length : Int) := by omega
    simp only [↓reduceIte, go_sem, h3', intsB_len h3]

/-- Lists of bytes. -/
def u8ss (L : List (List Int)) : List (List AV) := L.map fun l => [.sl (u8s l)]
@[go_sem] theorem u8ss_len (xs : List (List Int)) : (u8ss xs).length = xs.length := by simp [u8ss]
@[go_sem] theorem u8ss_get (xs : List (List Int)) (i : Nat) : (u8ss xs)[i]? = xs[i]?.map fun l => [.sl (u8s l)] := by simp [u8ss]
def BsOk (L : List (List Int)) : Prop := L.length ≤ 140737488355328 ∧ ∀ l ∈ L, l.length ≤ 140737488355328 ∧ BytesOk l
def levels05S (L : List (List Int)) (m : Nat) : List Lv := (L.take m).map fun l => madeS l 5 10
theorem levels05_ok (L : List (List Int)) (hL : BsOk L) (m : Nat) (hm : m ≤ 1000) (H : List AO) : F law05_Levels [.sl (u8ss L), .int .i64 m] H = some (.ret (.sl (Lv.css (levels05S L m))), H) := by
  have hlen := hL.1
  have loop : ∀ (suf pre : List (List Int)) (j : Nat), L = pre ++ suf → pre.length + j = m →
      L_law05_Levels_0 H (H ++ [.lst 0 3 [], .lst pre.length 3 (Lv.css (pre.map fun l => madeS l 5 10))]) (.sl (u8ss L)) (.int .i64 m) (.ol (H.length + 1) pre.length) (.int .i64 pre.length) = some (.ret (.sl (Lv.css (levels05S L m))), H) := by
    intro suf
    induction suf with
    | nil =>
      intro pre j e hj
      subst e
      rw [List.append_nil] at *
      rw [L_law05_Levels_0, awL_eq]
      have : levels05S pre m = pre.map fun l => madeS l 5 10 := by unfold levels05S; rw [List.take_of_length_le (by omega)]
      simp only [↓reduceIte, go_sem, this]
    | cons x suf ih =>
      intro pre j e hj
      subst e
      simp at hlen
      have hx := hL.2 x (by simp)
      rw [L_law05_Levels_0, awL_eq]
      cases j with
      | zero =>
        have hmp : m = pre.length := by omega
        have : levels05S (pre ++ x :: suf) m = pre.map fun l => madeS l 5 10 := by unfold levels05S; rw [hmp, List.take_left']; rfl
        subst hmp
        simp only [↓reduceIte, go_sem, this]
      | succ j =>
        have := ih (pre ++ [x]) j (by simp) (by simp; omega)
        simp only [len_app, len_snoc, List.map_append, List.map_cons, List.map_nil, Int.natCast_add, Int.natCast_one] at this
        have hlt : (pre.length : Int) < (m : Int) := by omega
        have hmk := fun H => made_ok x hx.2 hx.1 5 10 (by omega) (by omega) H
        simp only [↓reduceIte, go_sem, hlt, hmk, css_snoc, List.length_map, show pre.length + (0 + 1) ≤ 1073741824 by omega, nat_wrap (n := pre.length) (by omega), this]
  have h0 := loop L [] m rfl (by simp)
  simp only [List.length_nil, Int.natCast_zero, List.map_nil, Lv.css] at h0
  rw [f_law05_Levels]
  simp only [↓reduceIte, go_sem, h0]
theorem levels05S_ok (L : List (List Int)) (m : Nat) : okLs (levels05S L m) := by
  intro x hx
  obtain ⟨l, _, rfl⟩ := List.mem_map.1 hx
  exact levelS_ok _ _ _ _ _
theorem levels05S_len (L : List (List Int)) (m : Nat) : (levels05S L m).length ≤ m := by simp [levels05S]; omega

theorem SubS_ok {l : Lv} {ps ms : List Lv} (hl : l.ok) (hp : okLs ps) (hm : okLs ms) : (SubS l ps ms).1.ok := by
  unfold SubS
  split
  · simp [zeroL, okL_mk]
  · split
    · exact subL_ok hp hm l hl
    · simp [zeroL, okL_mk]
theorem same05_ok (l : Lv) (ps ms : List Lv) (hl : l.ok) (hr : RightB l 5 10 = true) (hp : okLs ps) (hm : okLs ms) (hpl : ps.length ≤ 140737488355328) (hml : ms.length ≤ 140737488355328) (H : List AO) :
    F law05_same [.agg l.cs, .sl (Lv.css ps), .sl (Lv.css ms)] H = some (.ret (.bool true), H) := by
  have h1 := fun H => Sub_ok l ps ms hl hp hm hpl hml H
  have h2 := fun H => Sub05_ok l ps ms hl hp hm hpl hml H
  have h3 := fun H => Params_ok l hl (names_len hr 5) H
  have h4 := fun H => Metas_ok l hl (names_len hr 6) H
  have h5 := fun H => Params05_ok l hl (names_len hr 5) H
  have h6 := fun H => Metas05_ok l hl (names_len hr 6) H
  have hle := fun k => onceL_len (namesL k l) []
  have hn := fun k => names_len hr k
  have h7 := fun H => ints05_ok (onceL [] (namesL 5 l)) (onceL [] (namesL 5 l)) (by have := hle 5; have := hn 5; simp at *; omega) H
  have h8 := fun H => ints05_ok (onceL [] (namesL 6 l)) (onceL [] (namesL 6 l)) (by have := hle 6; have := hn 6; simp at *; omega) H
  have h9 := fun H => same02_ok (SubS l ps ms).1 (SubS_ok hl hp hm) (SubS l ps ms).1 H
  rw [f_law05_same]
  simp only [resL] at h1 h2
  simp only [↓reduceIte, go_sem, h1, h2, h3, h4, h5, h6, h7, h8, h9, intsB_refl, lvEq_refl]
def p0L : Lv := .mk 5 0 []
def q0L : Lv := .mk 5 1 []
theorem awake05_ok (H : List AO) : F law05_awake [] H = some (.ret (.bool true), H) := by
  have o1 : p0L.ok := by simp [p0L, okL_mk]
  have o2 : q0L.ok := by simp [q0L, okL_mk]
  have o3 : (Lv.mk 3 0 [p0L, q0L]).ok := by simp [okL_mk, o1, o2]
  have o4 : (Lv.mk 2 0 [q0L]).ok := by simp [okL_mk, o2]
  have o5 : zeroL.ok := by simp [zeroL, okL_mk]
  have o6 : (Lv.mk 3 0 [.mk 2 0 [q0L], q0L]).ok := by simp [okL_mk, o2]
  have h1 := fun H => Sub_ok (.mk 3 0 [p0L, q0L]) [.mk 2 0 [q0L]] [] o3 (by intro x hx; simp at hx; subst hx; exact o4) (by intro x hx; cases hx) (by simp) (by simp) H
  have h2 := fun H => Sub_ok zeroL [] [] o5 (by intro x hx; cases hx) (by intro x hx; cases hx) (by simp) (by simp) H
  have h3 := fun H => Params_ok (.mk 3 0 [p0L, q0L]) o3 (by decide) H
  have h4 := fun H => Metas_ok (.mk 3 0 [p0L, q0L]) o3 (by decide) H
  have e1 : SubS (.mk 3 0 [p0L, q0L]) [.mk 2 0 [q0L]] [] = (.mk 3 0 [.mk 2 0 [q0L], q0L], 0) := by rfl
  have e2 : SubS zeroL [] [] = (zeroL, 1) := by rfl
  have e3 : onceL [] (namesL 5 (.mk 3 0 [p0L, q0L])) = [0, 1] := by rfl
  have e4 : onceL [] (namesL 6 (.mk 3 0 [p0L, q0L])) = [] := by rfl
  have h9 := fun H => same02_ok _ o6 (.mk 3 0 [.mk 2 0 [q0L], q0L]) H
  rw [e1] at h1
  rw [e2] at h2
  rw [e3] at h3
  rw [e4] at h4
  simp only [resL, Lv.cs, Lv.css, p0L, q0L, zeroL, lvEq_refl, i64s, List.map_cons, List.map_nil] at h1 h2 h3 h4 h9
  rw [f_law05_awake]
  simp only [↓reduceIte, go_sem, h1, h2, h3, h4, h9]
theorem LsubMade_row (L : List Int) (hL : L.length ≤ 140737488355328 ∧ BytesOk L) (P : List (List Int)) (hP : BsOk P) (Q : List (List Int)) (hQ : BsOk Q) (H : List AO) :
    F law05_LsubMade [.sl (u8s L), .sl (u8ss P), .sl (u8ss Q)] H = some (.ret (.bool true), H) := by
  have h1 := fun H => made_ok L hL.2 hL.1 5 10 (by omega) (by omega) H
  have h2 := fun H => levels05_ok P hP 6 (by omega) H
  have h3 := fun H => levels05_ok Q hQ 11 (by omega) H
  have n1 := levels05S_len P 6
  have n2 := levels05S_len Q 11
  have h4 := fun H => same05_ok (madeS L 5 10) (levels05S P 6) (levels05S Q 11) (levelS_ok _ _ _ _ _) (levelS_RightB hL.2 (by omega) (by omega) 5 (by omega) 0) (levels05S_ok _ _) (levels05S_ok _ _) (by omega) (by omega) H
  simp only [Int.cast_ofNat_Int] at h2 h3
  rw [f_law05_LsubMade]
  simp only [↓reduceIte, go_sem, awake05_ok, h1, h2, h3, h4]
end Go.Ab
