/- The law TsubTwice of layer 15 returns true for every input, and what it is given reads behind the call as before. Conditions: none beyond the row's own. -/
import Derived.Test.YtnkblnmcabfbmaaRows
import Derived.Test.YtnkblnmcabfbmaaClC
import Derived.Test.YtnkblnmcabfbmaaSg
set_option linter.unusedVariables false
set_option maxRecDepth 100000
namespace Go.Proofs.Ytnkblnmcabfbmaa
open Go.ChangeShapes Go.RowKit Go.Ab

theorem tsubTwice_own : ownKnob Try.prog.godebug = none := by kernel_rfl
theorem tsubTwice_laid : laidOutB Try.prog = true := by kernel_rfl
theorem tsubTwice_lifted (os : Os) (started : os.Started) (H : Type) (enc : TypeId × Value → H) :
    ReturnsInHanded {} Try.checked os 11 .any (Rows.tsubTwiceSpec.pre6 enc Try.prog Try.f11 Rows.tsubTwiceRow.domain false) (Rows.tsubTwiceSpec.post enc Try.prog Try.f11 false true false false) := by
  refine law_lift (C := Try.checked) (tb := 4) (n := 3) tsubTwice_laid tsubTwice_own started (by kernel_rfl) Try.func11
    (ChangeSpec.witness6 (enc := enc) (C := Try.checked) false ⟨#[], #[.slice none 0 0, .slice none 0 0, .slice none 0 0], []⟩ 8 (by kernel_rfl) (by kernel_rfl) (by kernel_rfl) (by kernel_rfl))
    rfl (fun ds h => ?_) (by kernel_rfl) (by kernel_rfl) Try.underlying4 ?_ ?_
  · match ds, h with
    | [d0, d1, d2], _ => rfl
  · have hp : Try.f11.params = _ := Try.params11
    rw [hp]
    intro t ht
    simp at ht
    rcases ht with rfl | rfl <;> exact ⟨by kernel_rfl, of_decide_eq_true (by kernel_rfl)⟩
  · intro W base args ds ps hval0 hA0 hw0
    have hval : ∀ (j : Nat) t v, Try.f11.params[j]? = some t → args[j]? = some v → Value.okWide Try.prog W .any base t v := hval0
    have hA : DataW.TrodAll enc Try.prog W 0 (fun _ => true) true Try.f11.params.toList args.toList ds ps := hA0
    have hw : (DataW.weightsEach Try.prog Try.f11.params.toList ds).all (· ≤ reachBytes) = true := hw0
    rw [Try.params11] at hval hA hw
    obtain ⟨v0, v1, v2, d0, d1, d2, p0, p1, p2, rfl, rfl, rfl, h0, h1, h2⟩ := trodAll_three hA
    have hww := weightsEach_at hw
    obtain ⟨x0, y0, r0⟩ := arg_slice Try.underlying22 (e := fun L : List Int => .sl (u8s L)) (fun n => rd_u8s n) (hval 0 _ v0 rfl rfl) h0 (hww 0 _ _ rfl rfl)
    obtain ⟨x1, y1, r1⟩ := arg_slice Try.underlying23 (e := fun L : List (List Int) => .sl (L.map fun l => [.sl (u8s l)])) (fun n => rd_u8ss n) (hval 1 _ v1 rfl rfl) h1 (hww 1 _ _ rfl rfl)
    obtain ⟨x2, y2, r2⟩ := arg_slice Try.underlying23 (e := fun L : List (List Int) => .sl (L.map fun l => [.sl (u8s l)])) (fun n => rd_u8ss n) (hval 2 _ v2 rfl rfl) h2 (hww 2 _ _ rfl rfl)
    exact ⟨[.sl (u8s x0), .sl (x1.map fun l => [.sl (u8s l)]), .sl (x2.map fun l => [.sl (u8s l)])], .cons r0 (.cons r1 (.cons r2 (.nil _))), F_ok (TsubTwice_row x0 y0 x1 y1 x2 y2 [])⟩

theorem tsubTwice_holds : Rows.TsubTwiceSaid :=
  OpenClaim.holds_of_wide 11 Try.f11 rfl rfl rfl rfl rfl rfl rfl ⟨rfl, rfl, rfl, rfl, rfl⟩ rfl rfl rfl rfl rfl (by kernel_rfl) Try.func11 (by kernel_rfl)
    (of_decide_eq_true (by kernel_rfl)) (by unfold Func.isWrapper; first | (rw [if_pos (by decide +kernel)]; kernel_rfl) | (rw [if_neg (by decide +kernel)]; exact ⟨rfl, rfl⟩))
    (fun os started H enc _ => tsubTwice_lifted os started H enc)
end Go.Proofs.Ytnkblnmcabfbmaa
