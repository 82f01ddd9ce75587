/- Layer 16: the statements: whether the program is awake, and answers alike. Conditions: none. -/
import Derived.Test.YtgcegmmobpibbaaUh
set_option linter.unusedVariables false
set_option linter.unusedSimpArgs false
set_option maxRecDepth 100000
set_option maxHeartbeats 2000000
namespace Go.Ab
open Go.RowKit Go.Proofs

theorem zeroT_ok : zeroT.ok := .mk (by simp) (by simp) (by intro x hx; cases hx) (by intro x hx; cases hx)
theorem RedS.ok' {env : List De} (hE : okDs env) {t : Te} (ht : t.ok) {f : Int} {r : Te × Int × Int} (h : RedS env t f r) : r.1.ok := by
  cases h with
  | arg => exact zeroT_ok
  | er => exact zeroT_ok
  | long => exact zeroT_ok
  | ok _ _ _ _ hd _ => exact hd.ok hE ht
def sort0 : Te := .mk 2 0 [.mk 1 0 []] []
def sort1 : Te := .mk 2 0 [.mk 2 0 [.mk 1 0 []]] []
def idT : Te := .mk 5 0 [] [sort0, .mk 1 0 [] []]
theorem sort0_ok : sort0.ok := by simp [sort0, okT_mk, okL_mk]
theorem sort1_ok : sort1.ok := by simp [sort1, okT_mk, okL_mk]
theorem id_app_ok : (Te.mk 4 0 [] [idT, sort1]).ok := by simp [sort1, sort0, idT, okT_mk, okL_mk]
def declA : De := .mk 0 [] sort1 true sort0
theorem declA_ok : okDs [declA] := ⟨by simp, by
  intro d hd
  simp at hd; subst hd
  exact ⟨by simp [declA, De.cons], by intro c hc; simp [declA, De.cons] at hc, sort1_ok, sort0_ok⟩⟩
theorem okDs_nil : okDs [] := ⟨by simp, by intro d hd; cases hd⟩
theorem red1 (f : Nat) (hf : f + 1 ≤ 5000) : RedS [] (.mk 4 0 [] [idT, sort1]) (f + 1 : Nat) (sort1, (f : Int), 0) := by
  refine .ok (n := f + 1) (by rfl) (by rfl) rfl hf ?_ (by rfl)
  exact .beta (.stuck (by decide) (by decide) (fun h => absurd h (by decide))) (show OpenS (.mk 1 0 [] []) sort1 = (sort1, 0) by rfl) (.stuck (by decide) (by decide) (fun h => absurd h (by decide)))
theorem red0 : RedS [] (.mk 4 0 [] [idT, sort1]) 0 (zeroT, 0, 40) := by
  refine .er (n := 0) (n' := 0) (by rfl) (by rfl) rfl (by decide) ?_
  exact .beta0 (.stuck (by decide) (by decide) (fun h => absurd h (by decide)))
theorem redc : RedS [declA] (.mk 3 0 [] []) 1 (sort0, 0, 0) := by
  refine .ok (n := 1) (n' := 0) (by rfl) (by rfl) rfl (by decide) ?_ (by rfl)
  exact .const (d := declA) (by decide) (by rfl) (show TSubS sort0 [] [] = (sort0, 0) by rfl) (.stuck (by decide) (by decide) (fun h => absurd h (by decide)))
theorem Num02_0 (H : List AO) : F ref02_Num [.int .i64 0] H = some (.ret (.tup [.agg [.int .i64 1, .int .i64 0, .sl []], .int .i64 0]), H) := by
  have h : L_ref02_Num_0 H H (.int .i64 0) (.int .i64 0) [.int .i64 0, .int .i64 0, .sl []] [.int .i64 1, .int .i64 0, .sl []] = some (.ret (.tup [.agg [.int .i64 1, .int .i64 0, .sl []], .int .i64 0]), H) := by
    rw [L_ref02_Num_0, awL_eq]
    simp only [↓reduceIte, go_sem, show ¬ (0 : Int) < 0 by decide]
  rw [f_ref02_Num]
  simp only [↓reduceIte, go_sem, show ¬ (0 : Int) < 0 by decide, show ¬ (12 : Int) ≤ 0 by decide, h]
def declZ : De := .mk 0 [] zeroT false zeroT
theorem declZ_ok : okDs [declZ] := ⟨by simp, by
  intro d hd
  simp at hd; subst hd
  exact ⟨by simp [declZ, De.cons], by intro c hc; simp [declZ, De.cons] at hc, zeroT_ok, zeroT_ok⟩⟩
theorem awake16_ok (H : List AO) : F law16_awake [] H = some (.ret (.bool true), H) := by
  have hV := fun H => Var13_ok 0 H
  have hS0 := fun H => Sort13_ok (.mk 1 0 []) H
  have hS1 := fun H => Sort13_ok (.mk 2 0 [.mk 1 0 []]) H
  have hB1 := fun H => Bind13_ok 5 [sort0, .mk 1 0 [] []] H
  have hB2 := fun H => Bind13_ok 4 [idT, sort1] H
  have r3 := fun H => ReduceP_ok [] okDs_nil _ id_app_ok _ _ (red1 2 (by decide)) H
  have r0 := fun H => ReduceP_ok [] okDs_nil _ id_app_ok _ _ red0 H
  have rn := fun H => ReduceP_ok [] okDs_nil _ id_app_ok (-1) (zeroT, 0, 1) (.arg (.inr (.inr (.inl (by decide))))) H
  have rc := fun H => ReduceP_ok [declA] declA_ok (.mk 3 0 [] []) (by simp [okT_mk]) _ _ redc H
  have s1 := fun H => same13_ok sort1 sort1_ok sort1 H
  have s0 := fun H => same13_ok sort0 sort0_ok sort0 H
  have g1 := fun H => RightDP_ok [declA] declA_ok H
  have g2 := fun H => RightDP_ok [declZ] declZ_ok H
  rw [teEq_refl] at s1 s0
  rw [show RightD [declA] = true from rfl] at g1
  rw [show RightD [declZ] = false from rfl] at g2
  simp only [resN, De.css, De.cs, declA, declZ, De.p, De.cons, De.type, De.has, De.value, Co.css, List.map_cons, List.map_nil, sort0, sort1, idT, zeroT, Te.cs, Te.css, Lv.cs, Lv.css, List.cons_append, List.nil_append, show ((2 + 1 : Nat) : Int) = 3 from rfl, show ((2 : Nat) : Int) = 2 from rfl] at hV hS0 hS1 hB1 hB2 r3 r0 rn rc s1 s0 g1 g2
  rw [f_law16_awake]
  simp only [↓reduceIte, go_sem, Num02_0, hV, hS0, hS1, hB1, hB2, r3, r0, rn, rc, s1, s0, g1, g2]
end Go.Ab
