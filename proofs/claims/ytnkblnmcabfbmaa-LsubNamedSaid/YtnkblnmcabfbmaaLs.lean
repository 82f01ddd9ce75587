/- The stage's theorem on levels that name nothing. Conditions: none. -/
import Derived.Test.YtnkblnmcabfbmaaLr
set_option linter.unusedVariables false
set_option linter.unusedSimpArgs false
set_option maxRecDepth 100000
set_option maxHeartbeats 2000000
namespace Go.Ab
open Go.RowKit Go.Proofs

mutual
theorem subL_nil : ∀ l : Lv, subL [] [] l = l
  | .mk k n ks => by
    rw [subL, subLs_nil ks]
    simp [byL]
theorem subLs_nil : ∀ ks : List Lv, subLs [] [] ks = ks
  | [] => rfl
  | x :: r => by rw [subLs, subL_nil x, subLs_nil r]
end
mutual
theorem subL_none (ps : List Lv) : ∀ l : Lv, namesL 5 l = [] → subL ps [] l = l
  | .mk k n ks, h => by
    rw [namesL] at h
    split at h
    · cases h
    · rename_i h5
      rw [subL, subLs_none ps ks h]
      simp [byL, h5]
theorem subLs_none (ps : List Lv) : ∀ ks : List Lv, namesLs 5 ks = [] → subLs ps [] ks = ks
  | [], _ => rfl
  | x :: r, h => by
    rw [namesLs, List.append_eq_nil_iff] at h
    rw [subLs, subL_none ps x h.1, subLs_none ps r h.2]
end
mutual
/-- Where what is put in names nothing of a kind, all of that kind comes of what stays. -/
theorem names_sub (ps : List Lv) (hps : ∀ y ∈ ps, namesL 5 y = [] ∧ namesL 6 y = []) (p m : Int) (hp : p ≤ ps.length) : ∀ (l : Lv) (d : Int), rightB p m l d = true → namesL 5 (subL ps [] l) = [] ∧ namesL 6 (subL ps [] l) = namesL 6 l
  | .mk k n ks, d, h => by
    obtain ⟨_, hk, hn, q5, q6, _, hks⟩ := rightB_inv h
    rw [subL]
    by_cases e5 : k = 5
    · subst e5
      have := q5 rfl
      obtain ⟨y, hy⟩ : ∃ y, ps[n.toNat]? = some y := ⟨ps[n.toNat], by simp⟩
      have hx := hps y (List.mem_of_getElem? hy)
      have : ks = [] := List.eq_nil_of_length_eq_zero (by simp [kids02] at hk; simp [hk])
      subst this
      simp [byL, hy, hx, namesL, namesLs]
    · have := names_subs ps hps p m hp ks (d - 1) hks
      by_cases e6 : k = 6
      · subst e6
        have : ks = [] := List.eq_nil_of_length_eq_zero (by simp [kids02] at hk; simp [hk])
        subst this
        simp [byL, namesL, subLs, namesLs]
      · simp [byL, namesL, e5, e6, this]
theorem names_subs (ps : List Lv) (hps : ∀ y ∈ ps, namesL 5 y = [] ∧ namesL 6 y = []) (p m : Int) (hp : p ≤ ps.length) : ∀ (ks : List Lv) (d : Int), rightsB p m ks d = true → namesLs 5 (subLs ps [] ks) = [] ∧ namesLs 6 (subLs ps [] ks) = namesLs 6 ks
  | [], _, _ => ⟨rfl, rfl⟩
  | y :: r, d, h => by
    rw [rightsB, Bool.and_eq_true] at h
    have h1 := names_sub ps hps p m hp y d h.1
    have h2 := names_subs ps hps p m hp r d h.2
    rw [subLs, namesLs, namesLs, namesLs, h1.1, h1.2, h2.1, h2.2]
    exact ⟨rfl, rfl⟩
end
theorem levelS_names (L : List Int) (kind : Int) (hk : kind = 5 ∨ kind = 6) : ∀ (d : Nat) (a : Int), namesL kind (levelS L 0 0 d a).1 = []
  | 0, a => by rw [levelS]; simp [namesL, namesLs]; omega
  | d + 1, a => by
    have h := fun a => levelS_names L kind hk d a
    rw [levelS]
    repeat' split
    all_goals first | omega | skip
    all_goals simp [namesL, namesLs, h]
    all_goals omega
theorem onceL_nil {l : List Int} (h : onceL [] l = []) : l = [] := by
  have key : ∀ (l out : List Int), out.length ≤ (onceL out l).length := by
    intro l
    induction l with
    | nil => intro out; simp [onceL]
    | cons n r ih =>
      intro out
      rw [onceL]
      split
      · exact ih out
      · have := ih (out ++ [n]); simp at this; omega
  cases l with
  | nil => rfl
  | cons n r =>
    rw [onceL] at h
    have := key r ([] ++ [n])
    simp at this h
    rw [h] at this
    simp at this
theorem LsubNamed_row (L : List Int) (hL : L.length ≤ 140737488355328 ∧ BytesOk L) (P : List Int) (hP : P.length ≤ 140737488355328 ∧ BytesOk P) (H : List AO) :
    F law05_LsubNamed [.sl (u8s L), .sl (u8s P)] H = some (.ret (.bool true), H) := by
  have h1 := fun H => made_ok L hL.2 hL.1 5 10 (by omega) (by omega) H
  have h2 := fun H => made_ok P hP.2 hP.1 0 0 (by omega) (by omega) H
  have a1 : (madeS L 5 10).ok := levelS_ok _ _ _ _ _
  have a2 : (madeS P 0 0).ok := levelS_ok _ _ _ _ _
  have r1 : RightB (madeS L 5 10) 5 10 = true := levelS_RightB hL.2 (by omega) (by omega) 5 (by omega) 0
  have r2 : RightB (madeS P 0 0) 5 10 = true := levelS_RightB hP.2 (by omega) (by omega) 5 (by omega) 0
  have n5 : namesL 5 (madeS P 0 0) = [] := levelS_names P 5 (.inl rfl) 5 0
  have n6 : namesL 6 (madeS P 0 0) = [] := levelS_names P 6 (.inr rfl) 5 0
  generalize madeS L 5 10 = a at *
  generalize madeS P 0 0 = x at *
  have ops : okLs (List.replicate 5 x) := fun y hy => by rw [List.eq_of_mem_replicate hy]; exact a2
  have h3 := fun H => Params_ok a a1 (names_len r1 5) H
  have h4 := fun H => Metas_ok a a1 (names_len r1 6) H
  have h5 := fun H => Sub_ok a (List.replicate 5 x) [] a1 ops (by intro y hy; cases hy) (by simp) (by simp) H
  have h6 := fun H => Sub_ok a [] [] a1 (by intro y hy; cases hy) (by intro y hy; cases hy) (by simp) (by simp) H
  have e6 : SubS a [] [] = (a, 0) := by simp [SubS, r1, rightLs, subL_nil]
  rw [e6] at h6
  have hs := fun H => same02_ok a a1 a H
  have hs2 := fun H => same02_ok a a1 (subL (List.replicate 5 x) [] a) H
  have hq := names_sub (List.replicate 5 x) (fun y hy => by rw [List.eq_of_mem_replicate hy]; exact ⟨n5, n6⟩) 5 10 (by simp) a 12 (RightB_right r1)
  rw [f_law05_LsubNamed]
  simp only [resL, Lv.css] at h6
  have hd : List.replicate (Int.toNat 5) [AV.int .i64 0, .int .i64 0, .sl []] = List.replicate 5 [AV.int .i64 0, .int .i64 0, .sl []] := rfl
  have w1 : IntKind.i64.wrap 1 = 1 := by rfl
  have w2 : IntKind.i64.wrap 2 = 2 := by rfl
  have w3 : IntKind.i64.wrap 3 = 3 := by rfl
  have w4 : IntKind.i64.wrap 4 = 4 := by rfl
  have w5 : IntKind.i64.wrap 5 = 5 := by rfl
  have t2 : Int.toNat 2 = 2 := rfl
  have t3 : Int.toNat 3 = 3 := rfl
  have t4 : Int.toNat 4 = 4 := rfl
  simp only [↓reduceIte, go_sem, awake05_ok, h1, h2, h3, hd]
  rw [L_law05_LsubNamed_0, awL_eq]
  simp only [↓reduceIte, go_sem, w1, w2, w3, w4, w5, Int.zero_add]
  rw [L_law05_LsubNamed_0, awL_eq]
  simp only [↓reduceIte, go_sem, w1, w2, w3, w4, w5, Int.reduceAdd]
  rw [L_law05_LsubNamed_0, awL_eq]
  simp only [↓reduceIte, go_sem, w1, w2, w3, w4, w5, Int.reduceAdd, t2, t3, t4]
  rw [L_law05_LsubNamed_0, awL_eq]
  simp only [↓reduceIte, go_sem, w1, w2, w3, w4, w5, Int.reduceAdd, t2, t3, t4]
  rw [L_law05_LsubNamed_0, awL_eq]
  simp only [↓reduceIte, go_sem, w1, w2, w3, w4, w5, Int.reduceAdd, t2, t3, t4]
  rw [L_law05_LsubNamed_0, awL_eq]
  have e5 : SubS a (List.replicate 5 x) [] = if RightB (subL (List.replicate 5 x) [] a) 5 10 = true then (subL (List.replicate 5 x) [] a, 0) else (zeroL, 2) := by
    simp [SubS, r1, r2, rightLs]
  rw [e5] at h5
  have q5 := Params_ok (subL (List.replicate 5 x) [] a) (subL_ok ops (by intro y hy; cases hy) a a1)
  have q6 := Metas_ok (subL (List.replicate 5 x) [] a) (subL_ok ops (by intro y hy; cases hy) a a1)
  rw [hq.1] at q5
  rw [hq.2] at q6
  by_cases hb : RightB (subL (List.replicate 5 x) [] a) 5 10 = true
  · rw [if_pos hb] at h5
    have h7 := q5 (by simp)
    have h8 := q6 (names_len r1 6)
    have hi := fun H => ints05_ok (onceL [] (namesL 6 a)) (onceL [] (namesL 6 a)) (by have := onceL_len (namesL 6 a) []; have := names_len r1 6; simp at *; omega) H
    have hlen : 0 < (onceL [] (namesL 5 a)).length ∨ lvEq a (subL (List.replicate 5 x) [] a) = true := by
      cases hn : namesL 5 a with
      | nil => exact .inr (by rw [subL_none _ _ hn]; exact lvEq_refl a)
      | cons n r =>
        refine .inl ?_
        cases ho : onceL [] (n :: r) with
        | nil => have := onceL_nil ho; cases this
        | cons m q => simp
    generalize subL (List.replicate 5 x) [] a = b at *
    simp only [resL, Lv.css, List.replicate] at h5
    simp only [↓reduceIte, go_sem, w1, w2, w3, w4, w5, Int.reduceAdd, t2, t3, t4, h4, h5, h6, hs, hs2, h7, h8, hi, lvEq_refl, onceL, intsB_refl]
    rcases hlen with h | h
    · have h' : (0 : Int) < (onceL [] (namesL 5 a)).length := by omega
      rw [if_neg (fun c => c h')]
    · rw [h]; simp
  · rw [if_neg hb] at h5
    have hlen : (0 : Int) < (onceL [] (namesL 5 a)).length := by
      cases hn : namesL 5 a with
      | nil => rw [subL_none _ _ hn] at hb; exact absurd r1 hb
      | cons n r =>
        cases ho : onceL [] (n :: r) with
        | nil => have := onceL_nil ho; cases this
        | cons m q => simp
    simp only [resL, Lv.css, List.replicate, zeroL, Lv.cs] at h5
    simp only [↓reduceIte, go_sem, w1, w2, w3, w4, w5, Int.reduceAdd, t2, t3, t4, h5, h6, hs, lvEq_refl, hlen]
end Go.Ab
