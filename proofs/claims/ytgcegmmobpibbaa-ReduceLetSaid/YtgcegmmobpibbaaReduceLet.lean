/- The law ReduceLet of layer 16 returns true for every input, and what it is given reads behind the call as before. Conditions: none beyond the row's own. -/
import Derived.Test.YtgcegmmobpibbaaRows
import Derived.Test.YtgcegmmobpibbaaClC
import Derived.Test.YtgcegmmobpibbaaUs
set_option linter.unusedVariables false
set_option maxRecDepth 100000
namespace Go.Proofs.Ytgcegmmobpibbaa
open Go.ChangeShapes Go.RowKit Go.Ab

theorem reduceLet_own : ownKnob Try.prog.godebug = none := by kernel_rfl
theorem reduceLet_laid : laidOutB Try.prog = true := by kernel_rfl
theorem reduceLet_lifted (os : Os) (started : os.Started) (H : Type) (enc : TypeId × Value → H) :
    ReturnsInHanded {} Try.checked os 4 .any (Rows.reduceLetSpec.pre6 enc Try.prog Try.f4 Rows.reduceLetRow.domain false) (Rows.reduceLetSpec.post enc Try.prog Try.f4 false true false false) := by
  refine law_lift (C := Try.checked) (tb := 4) (n := 4) reduceLet_laid reduceLet_own started (by kernel_rfl) Try.func4
    (ChangeSpec.witness6 (enc := enc) (C := Try.checked) false ⟨#[], #[.slice none 0 0, .slice none 0 0, .slice none 0 0, .int .u16 0], []⟩ 8 (by kernel_rfl) (by kernel_rfl) (by kernel_rfl) (by kernel_rfl))
    rfl (fun ds h => ?_) (by kernel_rfl) (by kernel_rfl) Try.underlying4 ?_ ?_
  · match ds, h with
    | [d0, d1, d2, d3], _ => rfl
  · have hp : Try.f4.params = _ := Try.params4
    rw [hp]
    intro t ht
    simp at ht
    rcases ht with rfl | rfl | rfl <;> exact ⟨by kernel_rfl, of_decide_eq_true (by kernel_rfl)⟩
  · intro W base args ds ps hval0 hA0 hw0
    have hval : ∀ (j : Nat) t v, Try.f4.params[j]? = some t → args[j]? = some v → Value.okWide Try.prog W .any base t v := hval0
    have hA : DataW.TrodAll enc Try.prog W 0 (fun _ => true) true Try.f4.params.toList args.toList ds ps := hA0
    have hw : (DataW.weightsEach Try.prog Try.f4.params.toList ds).all (· ≤ reachBytes) = true := hw0
    rw [Try.params4] at hval hA hw
    obtain ⟨v0, v1, v2, v3, d0, d1, d2, d3, p0, p1, p2, p3, rfl, rfl, rfl, h0, h1, h2, h3⟩ := trodAll_four hA
    have hww := weightsEach_at hw
    obtain ⟨x0, y0, r0⟩ := arg_slice Try.underlying22 (e := fun L : List (List Int) => .sl (L.map fun l => [.sl (u8s l)])) (fun n => rd_u8ss n) (hval 0 _ v0 rfl rfl) h0 (hww 0 _ _ rfl rfl)
    obtain ⟨x1, y1, r1⟩ := arg_slice Try.underlying23 (e := fun L : List Int => .sl (u8s L)) (fun n => rd_u8s n) (hval 1 _ v1 rfl rfl) h1 (hww 1 _ _ rfl rfl)
    obtain ⟨x2, y2, r2⟩ := arg_slice Try.underlying23 (e := fun L : List Int => .sl (u8s L)) (fun n => rd_u8s n) (hval 2 _ v2 rfl rfl) h2 (hww 2 _ _ rfl rfl)
    obtain ⟨x3, y3, r3⟩ := arg_int Try.underlying24 (hval 3 _ v3 rfl rfl) h3
    exact ⟨[.sl (x0.map fun l => [.sl (u8s l)]), .sl (u8s x1), .sl (u8s x2), .int .u16 x3], .cons r0 (.cons r1 (.cons r2 (.cons r3 (.nil _)))), F_ok (ReduceLet_row x0 y0 x1 y1 x2 y2 x3 (mono_w16 y3) [])⟩

theorem reduceLet_holds : Rows.ReduceLetSaid :=
  OpenClaim.holds_of_wide 4 Try.f4 rfl rfl rfl rfl rfl rfl rfl ⟨rfl, rfl, rfl, rfl, rfl⟩ rfl rfl rfl rfl rfl (by kernel_rfl) Try.func4 (by kernel_rfl)
    (of_decide_eq_true (by kernel_rfl)) (by unfold Func.isWrapper; first | (rw [if_pos (by decide +kernel)]; kernel_rfl) | (rw [if_neg (by decide +kernel)]; exact ⟨rfl, rfl⟩))
    (fun os started H enc _ => reduceLet_lifted os started H enc)
end Go.Proofs.Ytgcegmmobpibbaa
