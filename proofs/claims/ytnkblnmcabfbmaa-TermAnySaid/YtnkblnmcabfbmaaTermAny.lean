/- For any two terms and any two numbers the law TermAny of layer 13 returns true, and its arguments read behind the call as before. Conditions: none beyond the row's own. -/
import Derived.Test.YtnkblnmcabfbmaaRows
import Derived.Test.YtnkblnmcabfbmaaClC
import Derived.Test.YtnkblnmcabfbmaaTb
set_option linter.unusedVariables false
set_option maxRecDepth 100000
namespace Go.Proofs.Ytnkblnmcabfbmaa
open Go.ChangeShapes Go.RowKit Go.Ab

theorem termAny_own : ownKnob Try.prog.godebug = none := by kernel_rfl
theorem termAny_laid : laidOutB Try.prog = true := by kernel_rfl
theorem termAny_lifted (os : Os) (started : os.Started) (H : Type) (enc : TypeId × Value → H) :
    ReturnsInHanded {} Try.checked os 6 .any (Rows.termAnySpec.pre6 enc Try.prog Try.f6 Rows.termAnyRow.domain false) (Rows.termAnySpec.post enc Try.prog Try.f6 false true false false) := by
  refine law_lift (C := Try.checked) (tb := 4) (n := 4) termAny_laid termAny_own started (by kernel_rfl) Try.func6
    (ChangeSpec.witness6 (enc := enc) (C := Try.checked) false ⟨#[], #[.agg #[.int .i64 0, .int .i64 0, .slice none 0 0, .slice none 0 0], .agg #[.int .i64 0, .int .i64 0, .slice none 0 0, .slice none 0 0], .int .i64 0, .int .i64 0], []⟩ 8 (by kernel_rfl) (by kernel_rfl) (by kernel_rfl) (by kernel_rfl))
    rfl (fun ds h => ?_) (by kernel_rfl) (by kernel_rfl) Try.underlying4 ?_ ?_
  · match ds, h with
    | [d1, d2, d3, d4], _ => rfl
  · have hp : Try.f6.params = _ := Try.params6
    rw [hp]
    intro t ht
    simp at ht
    rcases ht with rfl | rfl <;> exact ⟨by kernel_rfl, of_decide_eq_true (by kernel_rfl)⟩
  · intro W base args ds ps hval0 hA0 hw0
    have hval : ∀ (j : Nat) t v, Try.f6.params[j]? = some t → args[j]? = some v → Value.okWide Try.prog W .any base t v := hval0
    have hA : DataW.TrodAll enc Try.prog W 0 (fun _ => true) true Try.f6.params.toList args.toList ds ps := hA0
    have hw : (DataW.weightsEach Try.prog Try.f6.params.toList ds).all (· ≤ reachBytes) = true := hw0
    rw [Try.params6] at hval hA hw
    obtain ⟨v0, v1, v2, v3, d0, d1, d2, d3, p0, p1, p2, p3, rfl, rfl, rfl, h0, h1, h2, h3⟩ := trodAll_four hA
    have hww := weightsEach_at hw
    obtain ⟨t, ht, r0⟩ := arg_struct Try.underlying46 (fun n => rd_te n) (hval 0 _ v0 rfl rfl) h0 (hww 0 _ _ rfl rfl)
    obtain ⟨u, hu, r1⟩ := arg_struct Try.underlying46 (fun n => rd_te n) (hval 1 _ v1 rfl rfl) h1 (hww 1 _ _ rfl rfl)
    obtain ⟨f, hf, r2⟩ := arg_int Try.underlying3 (hval 2 _ v2 rfl rfl) h2
    obtain ⟨b, hb, r3⟩ := arg_int Try.underlying3 (hval 3 _ v3 rfl rfl) h3
    exact ⟨[.agg t.cs, .agg u.cs, .int .i64 f, .int .i64 b], .cons r0 (.cons r1 (.cons r2 (.cons r3 (.nil _)))), F_ok (TermAny_ok t u ht hu f b [])⟩

theorem termAny_holds : Rows.TermAnySaid :=
  OpenClaim.holds_of_wide 6 Try.f6 rfl rfl rfl rfl rfl rfl rfl ⟨rfl, rfl, rfl, rfl, rfl⟩ rfl rfl rfl rfl rfl (by kernel_rfl) Try.func6 (by kernel_rfl)
    (of_decide_eq_true (by kernel_rfl)) (by unfold Func.isWrapper; first | (rw [if_pos (by decide +kernel)]; kernel_rfl) | (rw [if_neg (by decide +kernel)]; exact ⟨rfl, rfl⟩))
    (fun os started H enc _ => termAny_lifted os started H enc)
end Go.Proofs.Ytnkblnmcabfbmaa
