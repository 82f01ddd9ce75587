/- The law TermBack of layer 13 returns true for every input, and what it is given reads behind the call as before. Conditions: none beyond the row's own. -/
import Derived.Test.YtnkblnmcabfbmaaRows
import Derived.Test.YtnkblnmcabfbmaaClC
import Derived.Test.YtnkblnmcabfbmaaTy
set_option linter.unusedVariables false
set_option maxRecDepth 100000
namespace Go.Proofs.Ytnkblnmcabfbmaa
open Go.ChangeShapes Go.RowKit Go.Ab

theorem termBack_own : ownKnob Try.prog.godebug = none := by kernel_rfl
theorem termBack_laid : laidOutB Try.prog = true := by kernel_rfl
theorem termBack_lifted (os : Os) (started : os.Started) (H : Type) (enc : TypeId × Value → H) :
    ReturnsInHanded {} Try.checked os 9 .any (Rows.termBackSpec.pre6 enc Try.prog Try.f9 Rows.termBackRow.domain false) (Rows.termBackSpec.post enc Try.prog Try.f9 false true false false) := by
  refine law_lift (C := Try.checked) (tb := 4) (n := 5) termBack_laid termBack_own started (by kernel_rfl) Try.func9
    (ChangeSpec.witness6 (enc := enc) (C := Try.checked) false ⟨#[], #[.slice none 0 0, .slice none 0 0, .int .u8 0, .int .u8 0, .int .u8 0], []⟩ 8 (by kernel_rfl) (by kernel_rfl) (by kernel_rfl) (by kernel_rfl))
    rfl (fun ds h => ?_) (by kernel_rfl) (by kernel_rfl) Try.underlying4 ?_ ?_
  · match ds, h with
    | [d0, d1, d2, d3, d4], _ => rfl
  · have hp : Try.f9.params = _ := Try.params9
    rw [hp]
    intro t ht
    simp at ht
    rcases ht with rfl | rfl <;> exact ⟨by kernel_rfl, of_decide_eq_true (by kernel_rfl)⟩
  · intro W base args ds ps hval0 hA0 hw0
    have hval : ∀ (j : Nat) t v, Try.f9.params[j]? = some t → args[j]? = some v → Value.okWide Try.prog W .any base t v := hval0
    have hA : DataW.TrodAll enc Try.prog W 0 (fun _ => true) true Try.f9.params.toList args.toList ds ps := hA0
    have hw : (DataW.weightsEach Try.prog Try.f9.params.toList ds).all (· ≤ reachBytes) = true := hw0
    rw [Try.params9] at hval hA hw
    obtain ⟨v0, v1, v2, v3, v4, d0, d1, d2, d3, d4, p0, p1, p2, p3, p4, rfl, rfl, rfl, h0, h1, h2, h3, h4⟩ := trodAll_five hA
    have hww := weightsEach_at hw
    obtain ⟨x0, y0, r0⟩ := arg_slice Try.underlying22 (e := fun L : List Int => .sl (u8s L)) (fun n => rd_u8s n) (hval 0 _ v0 rfl rfl) h0 (hww 0 _ _ rfl rfl)
    obtain ⟨x1, y1, r1⟩ := arg_slice Try.underlying22 (e := fun L : List Int => .sl (u8s L)) (fun n => rd_u8s n) (hval 1 _ v1 rfl rfl) h1 (hww 1 _ _ rfl rfl)
    obtain ⟨x2, y2, r2⟩ := arg_int Try.underlying5 (hval 2 _ v2 rfl rfl) h2
    obtain ⟨x3, y3, r3⟩ := arg_int Try.underlying5 (hval 3 _ v3 rfl rfl) h3
    obtain ⟨x4, y4, r4⟩ := arg_int Try.underlying5 (hval 4 _ v4 rfl rfl) h4
    exact ⟨[.sl (u8s x0), .sl (u8s x1), .int .u8 x2, .int .u8 x3, .int .u8 x4], .cons r0 (.cons r1 (.cons r2 (.cons r3 (.cons r4 (.nil _))))), F_ok (TermBack_row x0 y0 x1 y1 x2 (mono_wf y2) x3 (mono_wf y3) x4 (mono_wf y4) [])⟩

theorem termBack_holds : Rows.TermBackSaid :=
  OpenClaim.holds_of_wide 9 Try.f9 rfl rfl rfl rfl rfl rfl rfl ⟨rfl, rfl, rfl, rfl, rfl⟩ rfl rfl rfl rfl rfl (by kernel_rfl) Try.func9 (by kernel_rfl)
    (of_decide_eq_true (by kernel_rfl)) (by unfold Func.isWrapper; first | (rw [if_pos (by decide +kernel)]; kernel_rfl) | (rw [if_neg (by decide +kernel)]; exact ⟨rfl, rfl⟩))
    (fun os started H enc _ => termBack_lifted os started H enc)
end Go.Proofs.Ytnkblnmcabfbmaa
