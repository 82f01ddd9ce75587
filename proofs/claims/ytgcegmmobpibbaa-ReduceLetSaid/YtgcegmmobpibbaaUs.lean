/- Layer 16: the statement ReduceLet. Conditions: none. -/
import Derived.Test.YtgcegmmobpibbaaUq
set_option linter.unusedVariables false
set_option linter.unusedSimpArgs false
set_option maxRecDepth 100000
set_option maxHeartbeats 4000000
namespace Go.Ab
open Go.RowKit Go.Proofs

theorem red_let {env : List De} {t u x : Te} (ho : OpenS t u = (x, 0)) (hS : ShapeB (.mk 7 0 [] [sort0, u, t]) = true) {f : Int} (hf : 0 ≤ f ∧ f + 1 ≤ 5000) (hR : RightD env = true) {r : Te × Int × Int} (h : RedS env x f r) : RedS env (.mk 7 0 [] [sort0, u, t]) (f + 1) r := by
  have hx := (OpenS_in ho).2.2.2
  cases h with
  | arg h =>
    exfalso
    rcases h with h | h | h | h
    · rw [hR] at h; cases h
    · rw [hx] at h; cases h
    · omega
    · omega
  | @er n n' e g1 g2 g3 g4 hd => exact .er (n := n + 1) g1 hS (by omega) (by omega) (.letr ho hd)
  | @long n n' t' g1 g2 g3 g4 hd hs => exact .long (n := n + 1) g1 hS (by omega) (by omega) (.lett ho hd) hs
  | @ok n n' t' g1 g2 g3 g4 hd hs => exact .ok (n := n + 1) g1 hS (by omega) (by omega) (.lett ho hd) hs
theorem red_app {env : List De} {t u x : Te} (ho : OpenS t u = (x, 0)) (hS : ShapeB (.mk 4 0 [] [.mk 5 0 [] [sort0, t], u]) = true) {f : Int} (hf : 0 ≤ f ∧ f + 1 ≤ 5000) (hR : RightD env = true) {r : Te × Int × Int} (h : RedS env x f r) : RedS env (.mk 4 0 [] [.mk 5 0 [] [sort0, t], u]) (f + 1) r := by
  have hx := (OpenS_in ho).2.2.2
  have hl : ∀ n, Hd env n (.mk 5 0 [] [sort0, t]) (.mk 5 0 [] [sort0, t]) n := fun n => .stuck (by decide) (by decide) (fun h => absurd h (by decide))
  cases h with
  | arg h =>
    exfalso
    rcases h with h | h | h | h
    · rw [hR] at h; cases h
    · rw [hx] at h; cases h
    · omega
    · omega
  | @er n n' e g1 g2 g3 g4 hd => exact .er (n := n + 1) g1 hS (by omega) (by omega) (.betar (hl (n + 1)) ho hd)
  | @long n n' t' g1 g2 g3 g4 hd hs => exact .long (n := n + 1) g1 hS (by omega) (by omega) (.beta (hl (n + 1)) ho hd) hs
  | @ok n n' t' g1 g2 g3 g4 hd hs => exact .ok (n := n + 1) g1 hS (by omega) (by omega) (.beta (hl (n + 1)) ho hd) hs
theorem ReduceLet_ok (l : List (List Int)) (hl : BsOk l) (K : List Int) (hK : BytesOk K) (hlen : K.length ≤ 140737488355328) (J : List Int) (hJ : BytesOk J) (hlenJ : J.length ≤ 140737488355328) (f : Int) (hf : 0 ≤ f ∧ f < 65536) (H : List AO) :
    F law16_ReduceLet [.sl (u8ss l), .sl (u8s K), .sl (u8s J), .int .u16 f] H = some (.ret (.bool true), H) := by
  have hE := fun H => env_ok l hl H
  have hD := env_okDs hl
  have hR := env_right hl
  have hC : F law16_closed [.ptr H.length 0, .int .i64 4, .int .i64 3, .int .i64 2, .int .i64 4] (H ++ [mkr K 0]) = _ := closed_new 4 3 (by omega) (by omega) K hK hlen 3 (by omega) (by decide) 2 (by omega) H
  have hC2 : ∀ X, F law16_closed [.ptr X.length 0, .int .i64 4, .int .i64 3, .int .i64 1, .int .i64 3] (X ++ [mkr J 0]) = _ := fun X => closed_new 4 3 (by omega) (by omega) J hJ hlenJ 2 (by omega) (by decide) 1 (by omega) X
  have ht := closedS_ok hK 4 3 4 2 0
  have hu := closedS_ok hJ 4 3 3 1 0
  have hi := closed_inv hK 3 (by omega) 2 (by omega)
  have hj := closed_inv hJ 2 (by omega) 1 (by omega)
  have hz1 := closedS_sz K 4 3 4 2 0
  have hz2 := closedS_sz J 4 3 3 1 0
  have h0 : AO.box [.sl (u8s K), .int .i64 0] = mkr K 0 := rfl
  have h0' : AO.box [.sl (u8s J), .int .i64 0] = mkr J 0 := rfl
  have hf0 : 0 ≤ f.tmod 300 := Int.tmod_nonneg 300 hf.1
  have hf1 : f.tmod 300 < 300 := Int.tmod_lt_of_pos _ (by decide)
  rw [show (3 : Nat) + 1 = 4 from rfl] at hC hi
  simp only [Nat.reduceAdd] at hC2 hj
  generalize hE2 : envF l 0 = env at *
  generalize closedS K 4 3 4 2 0 = q at *
  generalize closedS J 4 3 3 1 0 = q2 at *
  rcases q with ⟨t, b⟩
  rcases q2 with ⟨u, b2⟩
  dsimp only at hC ht hi hC2 hu hj hz1 hz2
  have hC2 := hC2 (H ++ [mkr K b])
  simp only [List.append_assoc, List.cons_append, List.nil_append, List.length_append, List.length_cons, List.length_nil, Nat.zero_add] at hC2
  have s0 : rightT 5 10 sort0 1 1 = true := by rfl
  have hp3 : (3 : Nat) ^ (4 + 1) = 243 := rfl
  have hp4 : (3 : Nat) ^ (3 + 1) = 81 := rfl
  have z0 : sz sort0 = 1 := rfl
  have hSL : ShapeB (.mk 7 0 [] [sort0, u, t]) = true := by
    refine shape_of (v := 1) (d := 6) ?_ (by omega) (by omega) (by rw [sz_let]; omega)
    have h1 := right_mono sort0 s0 (v' := 1) (d' := 5) (by omega) (by omega)
    have h2 := right_mono u hj.1 (v' := 1) (d' := 5) (by omega) (by omega)
    have h3 := right_mono t hi.1 (v' := 2) (d' := 5) (by omega) (by omega)
    simp [rightT, rightTs, kids13, namedB, binds, h1, h2, h3]
  have hSA : ShapeB (.mk 4 0 [] [.mk 5 0 [] [sort0, t], u]) = true := by
    refine shape_of (v := 1) (d := 7) ?_ (by omega) (by omega) (by rw [sz_two, sz_two]; omega)
    have h1 := right_mono sort0 s0 (v' := 1) (d' := 5) (by omega) (by omega)
    have h2 := right_mono u hj.1 (v' := 1) (d' := 6) (by omega) (by omega)
    have h3 := right_mono t hi.1 (v' := 2) (d' := 5) (by omega) (by omega)
    simp [rightT, rightTs, kids13, namedB, binds, h1, h2, h3]
  have okL : (Te.mk 7 0 [] [sort0, u, t]).ok := .mk (by simp) (by simp) (by intro x hx; cases hx) (by intro x hx; simp at hx; rcases hx with rfl | rfl | rfl <;> first | exact sort0_ok | assumption)
  have okB : (Te.mk 5 0 [] [sort0, t]).ok := .mk (by simp) (by simp) (by intro x hx; cases hx) (by intro x hx; simp at hx; rcases hx with rfl | rfl <;> first | exact sort0_ok | assumption)
  have okA : (Te.mk 4 0 [] [.mk 5 0 [] [sort0, t], u]).ok := .mk (by simp) (by simp) (by intro x hx; cases hx) (by intro x hx; simp at hx; rcases hx with rfl | rfl <;> assumption)
  have hS0 := fun H => Sort13_ok (.mk 1 0 []) H
  have hB1 := fun H => Bind13_ok 7 [sort0, u, t] H
  have hB2 := fun H => Bind13_ok 5 [sort0, t] H
  have hB3 := fun H => Bind13_ok 4 [.mk 5 0 [] [sort0, t], u] H
  have hw1 : IntKind.i64.wrap f = f := wrap64 (by omega) (by omega)
  have hw2 : IntKind.i64.wrap (f.tmod 300 + 1) = f.tmod 300 + 1 := wrap64 (by omega) (by omega)
  have hO := fun H => Open13_ok t u ht hu H
  rcases ho : OpenS t u with ⟨x, e⟩
  have hx := OpenS_ok' ho ht hu
  rw [ho] at hO
  rw [f_law16_ReduceLet]
  by_cases he : e = 0
  · subst he
    obtain ⟨r, hr⟩ := red_total env x (f.tmod 300)
    have k1 := fun H => ReduceP_ok env hD x hx _ r hr H
    have k2 := fun H => ReduceP_ok env hD _ okL _ r (red_let ho hSL (by omega) hR hr) H
    have k3 := fun H => ReduceP_ok env hD _ okA _ r (red_app ho hSA (by omega) hR hr) H
    have hr1 := hr.ok' hD hx
    have k4 := fun H => same13_ok r.1 hr1 r.1 H
    rw [teEq_refl] at k4
    rcases t with ⟨k, n, ls, ks⟩
    rcases u with ⟨uk, un, uls, uks⟩
    rcases x with ⟨xk, xn, xls, xks⟩
    rcases r with ⟨⟨rk, rn, rls, rks⟩, m, e⟩
    simp only [resN, resT, Te.cs, Te.css, Lv.cs, Lv.css, sort0] at hC hC2 hS0 hB1 hB2 hB3 hO k1 k2 k3 k4
    simp only [↓reduceIte, go_sem, awake16_ok, hE, h0, h0', hC, hC2, hS0, hB1, hB2, hB3, hO, hw1, hw2, k1, k2, k3, k4]
  · have he2 : e = 2 := by
      have s1 := shape_of hi.1 (by omega) (by omega) (show sz t ≤ 600 by omega)
      have s2 := shape_of hj.1 (by omega) (by omega) (show sz u ≤ 600 by omega)
      unfold OpenS at ho
      rw [if_neg (by simp [s1, s2])] at ho
      unfold toldT at ho
      split at ho
      · cases ho; exact absurd rfl he
      · cases ho; rfl
    subst he2
    rcases t with ⟨k, n, ls, ks⟩
    rcases u with ⟨uk, un, uls, uks⟩
    rcases x with ⟨xk, xn, xls, xks⟩
    simp only [resT, Te.cs, Te.css, Lv.cs, Lv.css, sort0] at hC hC2 hS0 hO
    simp only [↓reduceIte, go_sem, awake16_ok, hE, h0, h0', hC, hC2, hS0, hO, show ¬ ((2 : Int) = 0) by decide]
theorem ReduceLet_row (l : List (List Int)) (hl : BsOk l) (K : List Int) (hK : K.length ≤ 140737488355328 ∧ BytesOk K) (J : List Int) (hJ : J.length ≤ 140737488355328 ∧ BytesOk J) (f : Int) (hf : 0 ≤ f ∧ f < 65536) (H : List AO) :
    F law16_ReduceLet [.sl (l.map fun l => [.sl (u8s l)]), .sl (u8s K), .sl (u8s J), .int .u16 f] H = some (.ret (.bool true), H) :=
  ReduceLet_ok l hl K hK.2 hK.1 J hJ.2 hJ.1 f hf H
end Go.Ab
