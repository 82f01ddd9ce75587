/- The law ConvSelf of layer 17 returns true for every input, and what it is given reads behind the call as before. Conditions: none beyond the row's own. -/
import Derived.Test.YthebfdakjfnpeaaGreatRows
import Derived.Test.YthebfdakjfnpeaaGreatZeax
import Derived.Test.YthebfdakjfnpeaaGreatZeaz
set_option linter.unusedVariables false
set_option maxRecDepth 100000
namespace Go.Proofs.YthebfdakjfnpeaaGreat
open Go.ChangeShapes Go.RowKit Go.Ab

theorem z2i : ownKnob Tryz.prog.godebug = none := by kernel_rfl
theorem zzt : laidOutB Tryz.prog = true := by kernel_rfl
theorem zvl (os : Os) (started : os.Started) (H : Type) (enc : TypeId × Value → H) :
    ReturnsInHanded {} Tryz.checked os 7 .any (Rows.convSelfSpec.pre6 enc Tryz.prog Tryz.f7 Rows.convSelfRow.domain false) (Rows.convSelfSpec.post enc Tryz.prog Tryz.f7 false true false false) := by
  refine ygd (C := Tryz.checked) (tb := 4) (n := 3) zzt z2i started (by kernel_rfl) Tryz.func7
    (ChangeSpec.witness6 (enc := enc) (C := Tryz.checked) false ⟨#[], #[.slice none 0 0, .slice none 0 0, .slice none 0 0], []⟩ 8 (by kernel_rfl) (by kernel_rfl) (by kernel_rfl) (by kernel_rfl))
    rfl (fun ds h => ?_) (by kernel_rfl) (by kernel_rfl) Tryz.underlying4 ?_ ?_
  · match ds, h with
    | [d0, d1, d2], _ => rfl
  · have hp : Tryz.f7.params = _ := Tryz.params7
    rw [hp]
    intro t ht
    simp at ht
    rcases ht with rfl | rfl <;> exact ⟨by kernel_rfl, of_decide_eq_true (by kernel_rfl)⟩
  · intro W base args ds ps hval0 hA0 hw0
    have hval : ∀ (j : Nat) t v, Tryz.f7.params[j]? = some t → args[j]? = some v → Value.okWide Tryz.prog W .any base t v := hval0
    have hA : DataW.TrodAll enc Tryz.prog W 0 (fun _ => true) true Tryz.f7.params.toList args.toList ds ps := hA0
    have hw : (DataW.weightsEach Tryz.prog Tryz.f7.params.toList ds).all (· ≤ reachBytes) = true := hw0
    rw [Tryz.params7] at hval hA hw
    obtain ⟨v0, v1, v2, d0, d1, d2, p0, p1, p2, rfl, rfl, rfl, h0, h1, h2⟩ := trodAll_three hA
    have hww := zv2 hw
    obtain ⟨x0, y0, r0⟩ := zvw Tryz.underlying22 (e := fun L : List (List Int) => .sl (L.map fun l => [.sl (u8s l)])) (fun n => rd_u8ss n) (hval 0 _ v0 rfl rfl) h0 (hww 0 _ _ rfl rfl)
    obtain ⟨x1, y1, r1⟩ := zvw Tryz.underlying23 (e := fun L : List Int => .sl (u8s L)) (fun n => yag n) (hval 1 _ v1 rfl rfl) h1 (hww 1 _ _ rfl rfl)
    obtain ⟨x2, y2, r2⟩ := zvw Tryz.underlying23 (e := fun L : List Int => .sl (u8s L)) (fun n => yag n) (hval 2 _ v2 rfl rfl) h2 (hww 2 _ _ rfl rfl)
    exact ⟨[.sl (x0.map fun l => [.sl (u8s l)]), .sl (u8s x1), .sl (u8s x2)], .cons r0 (.cons r1 (.cons r2 (.nil _))), F_ok (z3a x0 y0 x1 y1 x2 y2 [])⟩

theorem convSelf_holds : Rows.ConvSelfSaid :=
  OpenClaim.holds_of_wide 7 Tryz.f7 rfl rfl rfl rfl rfl rfl rfl ⟨rfl, rfl, rfl, rfl, rfl⟩ rfl rfl rfl rfl rfl (by kernel_rfl) Tryz.func7 (by kernel_rfl)
    (of_decide_eq_true (by kernel_rfl)) (by unfold Func.isWrapper; first | (rw [if_pos (by decide +kernel)]; kernel_rfl) | (rw [if_neg (by decide +kernel)]; exact ⟨rfl, rfl⟩))
    (fun os started H enc _ => zvl os started H enc)
end Go.Proofs.YthebfdakjfnpeaaGreat
