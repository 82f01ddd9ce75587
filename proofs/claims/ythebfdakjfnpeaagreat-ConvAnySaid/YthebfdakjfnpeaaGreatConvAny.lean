/- The law ConvAny of layer 17 returns true for every input, and what it is given reads behind the call as before. Conditions: none beyond the row's own. -/
import Derived.Test.YthebfdakjfnpeaaGreatRows
import Derived.Test.YthebfdakjfnpeaaGreatZbav
import Derived.Test.YthebfdakjfnpeaaGreatZbba
import Derived.Test.YthebfdakjfnpeaaGreatZbbb
set_option linter.unusedVariables false
set_option maxRecDepth 100000
namespace Go.Proofs.YthebfdakjfnpeaaGreat
open Go.ChangeShapes Go.RowKit Go.Ab

theorem z55 : ownKnob Tryz.prog.godebug = none := by kernel_rfl
theorem z3o : laidOutB Tryz.prog = true := by kernel_rfl
theorem zw6 (os : Os) (started : os.Started) (H : Type) (enc : TypeId × Value → H) :
    ReturnsInHanded {} Tryz.checked os 4 .any (Rows.convAnySpec.pre6 enc Tryz.prog Tryz.f4 Rows.convAnyRow.domain false) (Rows.convAnySpec.post enc Tryz.prog Tryz.f4 false true false false) := by
  refine yhv (C := Tryz.checked) (tb := 4) (n := 5) z3o z55 started (by kernel_rfl) Tryz.func4
    (ChangeSpec.witness6 (enc := enc) (C := Tryz.checked) false ⟨#[], #[.agg #[.slice none 0 0, .int .i64 0, .int .i64 0, .slice none 0 0, .int .i64 0], .agg #[.int .i64 0, .int .i64 0, .slice none 0 0, .slice none 0 0], .agg #[.int .i64 0, .int .i64 0, .slice none 0 0, .slice none 0 0], .bool false, .int .i64 0], []⟩ 8 (by kernel_rfl) (by kernel_rfl) (by kernel_rfl) (by kernel_rfl))
    rfl (fun ds h => ?_) (by kernel_rfl) (by kernel_rfl) Tryz.underlying4 ?_ ?_
  · match ds, h with
    | [d0, d1, d2, d3, d4], _ => rfl
  · have hp : Tryz.f4.params = _ := Tryz.params4
    rw [hp]
    intro t ht
    simp at ht
    rcases ht with rfl | rfl | rfl | rfl <;> exact ⟨by kernel_rfl, of_decide_eq_true (by kernel_rfl)⟩
  · intro W base args ds ps hval0 hA0 hw0
    have hval : ∀ (j : Nat) t v, Tryz.f4.params[j]? = some t → args[j]? = some v → Value.okWide Tryz.prog W .any base t v := hval0
    have hA : DataW.TrodAll enc Tryz.prog W 0 (fun _ => true) true Tryz.f4.params.toList args.toList ds ps := hA0
    have hw : (DataW.weightsEach Tryz.prog Tryz.f4.params.toList ds).all (· ≤ reachBytes) = true := hw0
    rw [Tryz.params4] at hval hA hw
    obtain ⟨v0, v1, v2, v3, v4, d0, d1, d2, d3, d4, p0, p1, p2, p3, p4, rfl, rfl, rfl, h0, h1, h2, h3, h4⟩ := z1k hA
    have hww := zmb hw
    obtain ⟨x0, y0, r0⟩ := ztc Tryz.underlying28 (fun n => rd_gr n) (hval 0 _ v0 rfl rfl) h0 (hww 0 _ _ rfl rfl)
    obtain ⟨x1, y1, r1⟩ := ztc Tryz.underlying36 (fun n => yg5 n) (hval 1 _ v1 rfl rfl) h1 (hww 1 _ _ rfl rfl)
    obtain ⟨x2, y2, r2⟩ := ztc Tryz.underlying36 (fun n => yg5 n) (hval 2 _ v2 rfl rfl) h2 (hww 2 _ _ rfl rfl)
    obtain ⟨x3, r3⟩ := yi6 Tryz.underlying4 (hval 3 _ v3 rfl rfl) h3
    obtain ⟨x4, y4, r4⟩ := arg_int Tryz.underlying3 (hval 4 _ v4 rfl rfl) h4
    exact ⟨[.agg x0.cs, .agg x1.cs, .agg x2.cs, .bool x3, .int .i64 x4], .cons r0 (.cons r1 (.cons r2 (.cons r3 (.cons r4 (.nil _))))), F_ok (z6m x0 y0 x1 y1 x2 y2 x3 x4 y4 [])⟩

theorem convAny_holds : Rows.ConvAnySaid :=
  OpenClaim.holds_of_wide 4 Tryz.f4 rfl rfl rfl rfl rfl rfl rfl ⟨rfl, rfl, rfl, rfl, rfl⟩ rfl rfl rfl rfl rfl (by kernel_rfl) Tryz.func4 (by kernel_rfl)
    (of_decide_eq_true (by kernel_rfl)) (by unfold Func.isWrapper; first | (rw [if_pos (by decide +kernel)]; kernel_rfl) | (rw [if_neg (by decide +kernel)]; exact ⟨rfl, rfl⟩))
    (fun os started H enc _ => zw6 os started H enc)
end Go.Proofs.YthebfdakjfnpeaaGreat
