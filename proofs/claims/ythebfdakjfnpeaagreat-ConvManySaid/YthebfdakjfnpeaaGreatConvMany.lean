/- The law ConvMany of layer 17 returns true for every input, and what it is given reads behind the call as before. Conditions: none beyond the row's own. -/
import Derived.Test.YthebfdakjfnpeaaGreatRows
import Derived.Test.YthebfdakjfnpeaaGreatZdav
import Derived.Test.YthebfdakjfnpeaaGreatZdax
set_option linter.unusedVariables false
set_option maxRecDepth 100000
namespace Go.Proofs.YthebfdakjfnpeaaGreat
open Go.ChangeShapes Go.RowKit Go.Ab

theorem z29 : ownKnob Tryz.prog.godebug = none := by kernel_rfl
theorem z0b : laidOutB Tryz.prog = true := by kernel_rfl
theorem zvy (os : Os) (started : os.Started) (H : Type) (enc : TypeId × Value → H) :
    ReturnsInHanded {} Tryz.checked os 6 .any (Rows.convManySpec.pre6 enc Tryz.prog Tryz.f6 Rows.convManyRow.domain false) (Rows.convManySpec.post enc Tryz.prog Tryz.f6 false true false false) := by
  refine yg7 (C := Tryz.checked) (tb := 4) (n := 2) z0b z29 started (by kernel_rfl) Tryz.func6
    (ChangeSpec.witness6 (enc := enc) (C := Tryz.checked) false ⟨#[], #[.int .u8 0, .bool false], []⟩ 8 (by kernel_rfl) (by kernel_rfl) (by kernel_rfl) (by kernel_rfl))
    rfl (fun ds h => ?_) (by kernel_rfl) (by kernel_rfl) Tryz.underlying4 ?_ ?_
  · match ds, h with
    | [d0, d1], _ => rfl
  · have hp : Tryz.f6.params = _ := Tryz.params6
    rw [hp]
    intro t ht
    simp at ht
    rcases ht with rfl | rfl <;> exact ⟨by kernel_rfl, of_decide_eq_true (by kernel_rfl)⟩
  · intro W base args ds ps hval0 hA0 hw0
    have hval : ∀ (j : Nat) t v, Tryz.f6.params[j]? = some t → args[j]? = some v → Value.okWide Tryz.prog W .any base t v := hval0
    have hA : DataW.TrodAll enc Tryz.prog W 0 (fun _ => true) true Tryz.f6.params.toList args.toList ds ps := hA0
    have hw : (DataW.weightsEach Tryz.prog Tryz.f6.params.toList ds).all (· ≤ reachBytes) = true := hw0
    rw [Tryz.params6] at hval hA hw
    obtain ⟨v0, v1, d0, d1, p0, p1, rfl, rfl, rfl, h0, h1⟩ := trodAll_two hA
    have hww := zwf hw
    obtain ⟨x0, y0, r0⟩ := arg_int Tryz.underlying5 (hval 0 _ v0 rfl rfl) h0
    obtain ⟨x1, r1⟩ := yif Tryz.underlying4 (hval 1 _ v1 rfl rfl) h1
    exact ⟨[.int .u8 x0, .bool x1], .cons r0 (.cons r1 (.nil _)), F_ok (z3x x0 (mono_wf y0) x1 [])⟩

theorem convMany_holds : Rows.ConvManySaid :=
  OpenClaim.holds_of_wide 6 Tryz.f6 rfl rfl rfl rfl rfl rfl rfl ⟨rfl, rfl, rfl, rfl, rfl⟩ rfl rfl rfl rfl rfl (by kernel_rfl) Tryz.func6 (by kernel_rfl)
    (of_decide_eq_true (by kernel_rfl)) (by unfold Func.isWrapper; first | (rw [if_pos (by decide +kernel)]; kernel_rfl) | (rw [if_neg (by decide +kernel)]; exact ⟨rfl, rfl⟩))
    (fun os started H enc _ => zvy os started H enc)
end Go.Proofs.YthebfdakjfnpeaaGreat
