/- The law TermDeep of layer 13 returns true for every input, and what it is given reads behind the call as before. Conditions: none beyond the row's own. -/
import Derived.Test.YtnkblnmcabfbmaaRows
import Derived.Test.YtnkblnmcabfbmaaClC
import Derived.Test.YtnkblnmcabfbmaaTd
set_option linter.unusedVariables false
set_option maxRecDepth 100000
namespace Go.Proofs.Ytnkblnmcabfbmaa
open Go.ChangeShapes Go.RowKit Go.Ab

theorem termDeep_own : ownKnob Try.prog.godebug = none := by kernel_rfl
theorem termDeep_laid : laidOutB Try.prog = true := by kernel_rfl
theorem termDeep_lifted (os : Os) (started : os.Started) (H : Type) (enc : TypeId × Value → H) :
    ReturnsInHanded {} Try.checked os 8 .any (Rows.termDeepSpec.pre6 enc Try.prog Try.f8 Rows.termDeepRow.domain false) (Rows.termDeepSpec.post enc Try.prog Try.f8 false true false false) := by
  refine law_lift (C := Try.checked) (tb := 4) (n := 2) termDeep_laid termDeep_own started (by kernel_rfl) Try.func8
    (ChangeSpec.witness6 (enc := enc) (C := Try.checked) false ⟨#[], #[.int .u8 0, .int .u8 0], []⟩ 8 (by kernel_rfl) (by kernel_rfl) (by kernel_rfl) (by kernel_rfl))
    rfl (fun ds h => ?_) (by kernel_rfl) (by kernel_rfl) Try.underlying4 ?_ ?_
  · match ds, h with
    | [d0, d1], _ => rfl
  · have hp : Try.f8.params = _ := Try.params8
    rw [hp]
    intro t ht
    simp at ht
    subst ht; exact ⟨by kernel_rfl, of_decide_eq_true (by kernel_rfl)⟩
  · intro W base args ds ps hval0 hA0 hw0
    have hval : ∀ (j : Nat) t v, Try.f8.params[j]? = some t → args[j]? = some v → Value.okWide Try.prog W .any base t v := hval0
    have hA : DataW.TrodAll enc Try.prog W 0 (fun _ => true) true Try.f8.params.toList args.toList ds ps := hA0
    have hw : (DataW.weightsEach Try.prog Try.f8.params.toList ds).all (· ≤ reachBytes) = true := hw0
    rw [Try.params8] at hval hA hw
    obtain ⟨v0, v1, d0, d1, p0, p1, rfl, rfl, rfl, h0, h1⟩ := trodAll_two hA
    have hww := weightsEach_at hw
    obtain ⟨x0, y0, r0⟩ := arg_int Try.underlying5 (hval 0 _ v0 rfl rfl) h0
    obtain ⟨x1, y1, r1⟩ := arg_int Try.underlying5 (hval 1 _ v1 rfl rfl) h1
    exact ⟨[.int .u8 x0, .int .u8 x1], .cons r0 (.cons r1 (.nil _)), F_ok (TermDeep_row x0 (mono_wf y0) x1 (mono_wf y1) [])⟩

theorem termDeep_holds : Rows.TermDeepSaid :=
  OpenClaim.holds_of_wide 8 Try.f8 rfl rfl rfl rfl rfl rfl rfl ⟨rfl, rfl, rfl, rfl, rfl⟩ rfl rfl rfl rfl rfl (by kernel_rfl) Try.func8 (by kernel_rfl)
    (of_decide_eq_true (by kernel_rfl)) (by unfold Func.isWrapper; first | (rw [if_pos (by decide +kernel)]; kernel_rfl) | (rw [if_neg (by decide +kernel)]; exact ⟨rfl, rfl⟩))
    (fun os started H enc _ => termDeep_lifted os started H enc)
end Go.Proofs.Ytnkblnmcabfbmaa
