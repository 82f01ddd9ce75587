/- The law ConvGather of layer 17 returns true for every input, and what it is given reads behind the call as before. Conditions: none beyond the row's own. -/
import Derived.Test.YthebfdakjfnpeaaGreatRows
import Derived.Test.YthebfdakjfnpeaaGreatZfax
import Derived.Test.YthebfdakjfnpeaaGreatZfaz
set_option linter.unusedVariables false
set_option maxRecDepth 100000
namespace Go.Proofs.YthebfdakjfnpeaaGreat
open Go.ChangeShapes Go.RowKit Go.Ab

theorem zwk : ownKnob Tryz.prog.godebug = none := by kernel_rfl
theorem zvn : laidOutB Tryz.prog = true := by kernel_rfl
theorem zsd (os : Os) (started : os.Started) (H : Type) (enc : TypeId × Value → H) :
    ReturnsInHanded {} Tryz.checked os 8 .any (Rows.convGatherSpec.pre6 enc Tryz.prog Tryz.f8 Rows.convGatherRow.domain false) (Rows.convGatherSpec.post enc Tryz.prog Tryz.f8 false true false false) := by
  refine yhb (C := Tryz.checked) (tb := 4) (n := 4) zvn zwk started (by kernel_rfl) Tryz.func8
    (ChangeSpec.witness6 (enc := enc) (C := Tryz.checked) false ⟨#[], #[.slice none 0 0, .slice none 0 0, .slice none 0 0, .bool false], []⟩ 8 (by kernel_rfl) (by kernel_rfl) (by kernel_rfl) (by kernel_rfl))
    rfl (fun ds h => ?_) (by kernel_rfl) (by kernel_rfl) Tryz.underlying4 ?_ ?_
  · match ds, h with
    | [d0, d1, d2, d3], _ => rfl
  · have hp : Tryz.f8.params = _ := Tryz.params8
    rw [hp]
    intro t ht
    simp at ht
    rcases ht with rfl | rfl | rfl <;> exact ⟨by kernel_rfl, of_decide_eq_true (by kernel_rfl)⟩
  · intro W base args ds ps hval0 hA0 hw0
    have hval : ∀ (j : Nat) t v, Tryz.f8.params[j]? = some t → args[j]? = some v → Value.okWide Tryz.prog W .any base t v := hval0
    have hA : DataW.TrodAll enc Tryz.prog W 0 (fun _ => true) true Tryz.f8.params.toList args.toList ds ps := hA0
    have hw : (DataW.weightsEach Tryz.prog Tryz.f8.params.toList ds).all (· ≤ reachBytes) = true := hw0
    rw [Tryz.params8] at hval hA hw
    obtain ⟨v0, v1, v2, v3, d0, d1, d2, d3, p0, p1, p2, p3, rfl, rfl, rfl, h0, h1, h2, h3⟩ := trodAll_four hA
    have hww := zv3 hw
    obtain ⟨x0, y0, r0⟩ := zvy Tryz.underlying22 (e := fun L : List (List Int) => .sl (L.map fun l => [.sl (u8s l)])) (fun n => rd_u8ss n) (hval 0 _ v0 rfl rfl) h0 (hww 0 _ _ rfl rfl)
    obtain ⟨x1, y1, r1⟩ := zvy Tryz.underlying23 (e := fun L : List Int => .sl (u8s L)) (fun n => yaz n) (hval 1 _ v1 rfl rfl) h1 (hww 1 _ _ rfl rfl)
    obtain ⟨x2, y2, r2⟩ := zvy Tryz.underlying23 (e := fun L : List Int => .sl (u8s L)) (fun n => yaz n) (hval 2 _ v2 rfl rfl) h2 (hww 2 _ _ rfl rfl)
    obtain ⟨x3, r3⟩ := yis Tryz.underlying4 (hval 3 _ v3 rfl rfl) h3
    exact ⟨[.sl (x0.map fun l => [.sl (u8s l)]), .sl (u8s x1), .sl (u8s x2), .bool x3], .cons r0 (.cons r1 (.cons r2 (.cons r3 (.nil _)))), F_ok (zwn x0 y0 x1 y1 x2 y2 x3 [])⟩

theorem convGather_holds : Rows.ConvGatherSaid :=
  OpenClaim.holds_of_wide 8 Tryz.f8 rfl rfl rfl rfl rfl rfl rfl ⟨rfl, rfl, rfl, rfl, rfl⟩ rfl rfl rfl rfl rfl (by kernel_rfl) Tryz.func8 (by kernel_rfl)
    (of_decide_eq_true (by kernel_rfl)) (by unfold Func.isWrapper; first | (rw [if_pos (by decide +kernel)]; kernel_rfl) | (rw [if_neg (by decide +kernel)]; exact ⟨rfl, rfl⟩))
    (fun os started H enc _ => zsd os started H enc)
end Go.Proofs.YthebfdakjfnpeaaGreat
