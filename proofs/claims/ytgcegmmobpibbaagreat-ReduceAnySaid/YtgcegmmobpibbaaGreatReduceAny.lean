/- The law ReduceAny of layer 16 returns true for every input, and what it is given reads behind the call as before. Conditions: none beyond the row's own. -/
import Derived.Test.YtgcegmmobpibbaaGreatRows
import Derived.Test.YtgcegmmobpibbaaGreatClC
import Derived.Test.YtgcegmmobpibbaaGreatClD
import Derived.Test.YtgcegmmobpibbaaGreatUk
set_option linter.unusedVariables false
set_option maxRecDepth 100000
namespace Go.Proofs.YtgcegmmobpibbaaGreat
open Go.ChangeShapes Go.RowKit Go.Ab

theorem reduceAny_own : ownKnob Tryz.prog.godebug = none := by kernel_rfl
theorem reduceAny_laid : laidOutB Tryz.prog = true := by kernel_rfl
theorem reduceAny_lifted (os : Os) (started : os.Started) (H : Type) (enc : TypeId × Value → H) :
    ReturnsInHanded {} Tryz.checked os 4 .any (Rows.reduceAnySpec.pre6 enc Tryz.prog Tryz.f4 Rows.reduceAnyRow.domain false) (Rows.reduceAnySpec.post enc Tryz.prog Tryz.f4 false true false false) := by
  refine law_lift (C := Tryz.checked) (tb := 4) (n := 3) reduceAny_laid reduceAny_own started (by kernel_rfl) Tryz.func4
    (ChangeSpec.witness6 (enc := enc) (C := Tryz.checked) false ⟨#[], #[.slice none 0 0, .agg #[.int .i64 0, .int .i64 0, .slice none 0 0, .slice none 0 0], .int .i64 0], []⟩ 8 (by kernel_rfl) (by kernel_rfl) (by kernel_rfl) (by kernel_rfl))
    rfl (fun ds h => ?_) (by kernel_rfl) (by kernel_rfl) Tryz.underlying4 ?_ ?_
  · match ds, h with
    | [d0, d1, d2], _ => rfl
  · have hp : Tryz.f4.params = _ := Tryz.params4
    rw [hp]
    intro t ht
    simp at ht
    rcases ht with rfl | rfl | rfl <;> exact ⟨by kernel_rfl, of_decide_eq_true (by kernel_rfl)⟩
  · intro W base args ds ps hval0 hA0 hw0
    have hval : ∀ (j : Nat) t v, Tryz.f4.params[j]? = some t → args[j]? = some v → Value.okWide Tryz.prog W .any base t v := hval0
    have hA : DataW.TrodAll enc Tryz.prog W 0 (fun _ => true) true Tryz.f4.params.toList args.toList ds ps := hA0
    have hw : (DataW.weightsEach Tryz.prog Tryz.f4.params.toList ds).all (· ≤ reachBytes) = true := hw0
    rw [Tryz.params4] at hval hA hw
    obtain ⟨v0, v1, v2, d0, d1, d2, p0, p1, p2, rfl, rfl, rfl, h0, h1, h2⟩ := trodAll_three hA
    have hww := weightsEach_at hw
    obtain ⟨x0, y0, r0⟩ := arg_slice Tryz.underlying25 (e := fun L : List De => .sl (De.css L)) (fun n => rd_decls n) (hval 0 _ v0 rfl rfl) h0 (hww 0 _ _ rfl rfl)
    obtain ⟨x1, y1, r1⟩ := arg_struct Tryz.underlying30 (fun n => rd_te n) (hval 1 _ v1 rfl rfl) h1 (hww 1 _ _ rfl rfl)
    obtain ⟨x2, y2, r2⟩ := arg_int Tryz.underlying3 (hval 2 _ v2 rfl rfl) h2
    exact ⟨[.sl (De.css x0), .agg x1.cs, .int .i64 x2], .cons r0 (.cons r1 (.cons r2 (.nil _))), F_ok (ReduceAny_row x0 y0 x1 y1 x2 y2 [])⟩

theorem reduceAny_holds : Rows.ReduceAnySaid :=
  OpenClaim.holds_of_wide 4 Tryz.f4 rfl rfl rfl rfl rfl rfl rfl ⟨rfl, rfl, rfl, rfl, rfl⟩ rfl rfl rfl rfl rfl (by kernel_rfl) Tryz.func4 (by kernel_rfl)
    (of_decide_eq_true (by kernel_rfl)) (by unfold Func.isWrapper; first | (rw [if_pos (by decide +kernel)]; kernel_rfl) | (rw [if_neg (by decide +kernel)]; exact ⟨rfl, rfl⟩))
    (fun os started H enc _ => reduceAny_lifted os started H enc)
end Go.Proofs.YtgcegmmobpibbaaGreat
