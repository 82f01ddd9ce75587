/- Layer 16: the statement ReduceMade. Conditions: none. -/
import Derived.Test.YtgcegmmobpibbaaUm
set_option linter.unusedVariables false
set_option linter.unusedSimpArgs false
set_option maxRecDepth 100000
set_option maxHeartbeats 4000000
namespace Go.Ab
open Go.RowKit Go.Proofs

theorem levelsC_ok (L : List Int) (p : Int) : ∀ (i : Nat) (a : Int), (levelsC L p i a).1.length = i ∧ ∀ x ∈ (levelsC L p i a).1, x.ok
  | 0, a => by simp [levelsC]
  | i + 1, a => by
    have h := levelsC_ok L p i
    rw [levelsC]
    refine ⟨by simp [h], ?_⟩
    intro x hx
    simp at hx
    rcases hx with rfl | hx
    · exact levelS_ok _ _ _ _ _
    · exact (h _).2 x hx
theorem closedS_ok {L : List Int} (hL : BytesOk L) (c p : Int) : ∀ (d : Nat) (v a : Int), (closedS L c p d v a).1.ok
  | 0, v, a => by rw [closedS]; simp [okT_mk]
  | d + 1, v, a => by
    have h := fun v a => closedS_ok hL c p d v a
    have h3 := levelsC_ok L p (pickS L (a + 1 + 1) 3).toNat (a + 1 + 1 + 1)
    have h2 := pick_range hL (a + 1 + 1) (n := 3) (by omega)
    rw [closedS]
    dsimp only
    repeat' split
    all_goals simp [okT_mk, h, levelS_ok]
    all_goals exact ⟨by omega, h3.2⟩
theorem declS_ok {L : List Int} (hL : BytesOk L) (c : Int) : (declS L c).1.ok := by
  have hk : (declK L).1.length ≤ 140737488355328 ∧ ∀ x ∈ (declK L).1, x.ok := by
    unfold declK
    split
    · refine ⟨by simp, ?_⟩
      intro x hx
      simp at hx; subst hx
      exact ⟨levelS_ok _ _ _ _ _, levelS_ok _ _ _ _ _⟩
    · exact ⟨by simp, by intro x hx; cases hx⟩
  rw [declS]
  split
  · exact ⟨hk.1, hk.2, closedS_ok hL _ _ _ _ _, closedS_ok hL _ _ _ _ _⟩
  · exact ⟨hk.1, hk.2, closedS_ok hL _ _ _ _ _, zeroT_ok⟩
theorem envF_len : ∀ (l : List (List Int)) (i : Nat), (envF l i).length ≤ l.length
  | [], _ => by simp [envF]
  | x :: r, i => by
    have := envF_len r (i + 1)
    rw [envF]; split <;> simp <;> omega
theorem envF_ok : ∀ (l : List (List Int)) (i : Nat), (∀ x ∈ l, x.length ≤ 140737488355328 ∧ BytesOk x) → ∀ d ∈ envF l i, d.ok
  | [], _, _, d, hd => by simp [envF] at hd
  | x :: r, i, h, d, hd => by
    rw [envF] at hd
    split at hd
    · rcases List.mem_cons.1 hd with rfl | hd
      · exact declS_ok (h x (by simp)).2 _
      · exact envF_ok r (i + 1) (fun y hy => h y (by simp [hy])) d hd
    · cases hd
theorem env_okDs {l : List (List Int)} (hl : BsOk l) : okDs (envF l 0) := ⟨Nat.le_trans (envF_len l 0) hl.1, envF_ok l 0 hl.2⟩
theorem closed_new (c p : Int) (hc : 0 ≤ c ∧ c ≤ 100) (hp : 0 ≤ p ∧ p ≤ 100) (L : List Int) (hL : BytesOk L) (hlen : L.length ≤ 140737488355328) (d : Nat) (hd : d ≤ 5) (hpw : 40 * (4 : Int) ^ (d + 1) ≤ 500000) (v : Int) (hv : 0 ≤ v ∧ v ≤ 90) (X : List AO) :
    F law16_closed [.ptr X.length 0, .int .i64 c, .int .i64 p, .int .i64 v, .int .i64 ((d : Int) + 1)] (X ++ [mkr L 0]) = some (.ret (.agg (closedS L c p (d + 1) v 0).1.cs), X ++ [mkr L (closedS L c p (d + 1) v 0).2]) := by
  have := closed_ok c p hc hp L hL hlen d (by omega) v (by omega) 0 (by omega) X.length (X ++ [mkr L 0]) (by simp)
  rw [app_set, app_set] at this
  exact this
end Go.Ab
