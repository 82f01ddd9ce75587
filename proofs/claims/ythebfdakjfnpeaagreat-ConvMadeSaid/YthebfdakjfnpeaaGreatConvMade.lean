/- The law ConvMade of layer 17 returns true for every input, and what it is given reads behind the call as before. Conditions: none beyond the row's own. -/
import Derived.Test.YthebfdakjfnpeaaGreatRows
import Derived.Test.YthebfdakjfnpeaaGreatZaax
import Derived.Test.YthebfdakjfnpeaaGreatZaaz
set_option linter.unusedVariables false
set_option maxRecDepth 100000
namespace Go.Proofs.YthebfdakjfnpeaaGreat
open Go.ChangeShapes Go.RowKit Go.Ab

theorem z5q : ownKnob Tryz.prog.godebug = none := by kernel_rfl
theorem z2o : laidOutB Tryz.prog = true := by kernel_rfl
theorem zx1 (os : Os) (started : os.Started) (H : Type) (enc : TypeId × Value → H) :
    ReturnsInHanded {} Tryz.checked os 3 .any (Rows.convMadeSpec.pre6 enc Tryz.prog Tryz.f3 Rows.convMadeRow.domain false) (Rows.convMadeSpec.post enc Tryz.prog Tryz.f3 false true false false) := by
  refine ykm (C := Tryz.checked) (tb := 4) (n := 6) z2o z5q started (by kernel_rfl) Tryz.func3
    (ChangeSpec.witness6 (enc := enc) (C := Tryz.checked) false ⟨#[], #[.slice none 0 0, .slice none 0 0, .slice none 0 0, .bool false, .bool false, .int .u16 0], []⟩ 8 (by kernel_rfl) (by kernel_rfl) (by kernel_rfl) (by kernel_rfl))
    rfl (fun ds h => ?_) (by kernel_rfl) (by kernel_rfl) Tryz.underlying4 ?_ ?_
  · match ds, h with
    | [d0, d1, d2, d3, d4, d5], _ => rfl
  · have hp : Tryz.f3.params = _ := Tryz.params3
    rw [hp]
    intro t ht
    simp at ht
    rcases ht with rfl | rfl | rfl | rfl <;> exact ⟨by kernel_rfl, of_decide_eq_true (by kernel_rfl)⟩
  · intro W base args ds ps hval0 hA0 hw0
    have hval : ∀ (j : Nat) t v, Tryz.f3.params[j]? = some t → args[j]? = some v → Value.okWide Tryz.prog W .any base t v := hval0
    have hA : DataW.TrodAll enc Tryz.prog W 0 (fun _ => true) true Tryz.f3.params.toList args.toList ds ps := hA0
    have hw : (DataW.weightsEach Tryz.prog Tryz.f3.params.toList ds).all (· ≤ reachBytes) = true := hw0
    rw [Tryz.params3] at hval hA hw
    obtain ⟨v0, v1, v2, v3, v4, v5, d0, d1, d2, d3, d4, d5, p0, p1, p2, p3, p4, p5, rfl, rfl, rfl, h0, h1, h2, h3, h4, h5⟩ := z6m hA
    have hww := zyj hw
    obtain ⟨x0, y0, r0⟩ := zyd Tryz.underlying22 (e := fun L : List (List Int) => .sl (L.map fun l => [.sl (u8s l)])) (fun n => rd_u8ss n) (hval 0 _ v0 rfl rfl) h0 (hww 0 _ _ rfl rfl)
    obtain ⟨x1, y1, r1⟩ := zyd Tryz.underlying23 (e := fun L : List Int => .sl (u8s L)) (fun n => yd4 n) (hval 1 _ v1 rfl rfl) h1 (hww 1 _ _ rfl rfl)
    obtain ⟨x2, y2, r2⟩ := zyd Tryz.underlying23 (e := fun L : List Int => .sl (u8s L)) (fun n => yd4 n) (hval 2 _ v2 rfl rfl) h2 (hww 2 _ _ rfl rfl)
    obtain ⟨x3, r3⟩ := yai Tryz.underlying4 (hval 3 _ v3 rfl rfl) h3
    obtain ⟨x4, r4⟩ := yai Tryz.underlying4 (hval 4 _ v4 rfl rfl) h4
    obtain ⟨x5, y5, r5⟩ := arg_int Tryz.underlying24 (hval 5 _ v5 rfl rfl) h5
    exact ⟨[.sl (x0.map fun l => [.sl (u8s l)]), .sl (u8s x1), .sl (u8s x2), .bool x3, .bool x4, .int .u16 x5], .cons r0 (.cons r1 (.cons r2 (.cons r3 (.cons r4 (.cons r5 (.nil _)))))), F_ok (z6i x0 y0 x1 y1 x2 y2 x3 x4 x5 (ykg y5) [])⟩

theorem convMade_holds : Rows.ConvMadeSaid :=
  OpenClaim.holds_of_wide 3 Tryz.f3 rfl rfl rfl rfl rfl rfl rfl ⟨rfl, rfl, rfl, rfl, rfl⟩ rfl rfl rfl rfl rfl (by kernel_rfl) Tryz.func3 (by kernel_rfl)
    (of_decide_eq_true (by kernel_rfl)) (by unfold Func.isWrapper; first | (rw [if_pos (by decide +kernel)]; kernel_rfl) | (rw [if_neg (by decide +kernel)]; exact ⟨rfl, rfl⟩))
    (fun os started H enc _ => zx1 os started H enc)
end Go.Proofs.YthebfdakjfnpeaaGreat
