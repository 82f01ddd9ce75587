/- The stage's theorems on terms. Conditions: none. -/
import Derived.Test.YtnkblnmcabfbmaaTz
import Derived.Test.YtnkblnmcabfbmaaTd
set_option linter.unusedVariables false
set_option linter.unusedSimpArgs false
set_option maxRecDepth 100000
set_option maxHeartbeats 2000000
namespace Go.Ab
open Go.RowKit Go.Proofs

theorem LiftS_of {t : Te} {f b : Int} (h1 : ShapeB t = true) (h2 : ShapeB (liftT b t f) = true) (hf : 0 ≤ f ∧ f ≤ 1000) (hb : 0 ≤ b ∧ b ≤ 1000) : LiftS t f b = (liftT b t f, 0) := by
  unfold LiftS toldT
  rw [if_neg (by rw [h1]; simp; omega), if_pos h2]
theorem OpenS_of {t u : Te} (h1 : ShapeB t = true) (h2 : ShapeB u = true) (h3 : ShapeB (openT u t 0) = true) : OpenS t u = (openT u t 0, 0) := by
  unfold OpenS toldT
  rw [if_neg (by rw [h1, h2]; simp), if_pos h3]

theorem TermBack_row (L : List Int) (hL : L.length ≤ 140737488355328 ∧ BytesOk L) (K : List Int) (hK : K.length ≤ 140737488355328 ∧ BytesOk K) (f : Int) (hf : 0 ≤ f ∧ f < 256) (a : Int) (ha : 0 ≤ a ∧ a < 256) (b : Int) (hb : 0 ≤ b ∧ b < 256) (H : List AO) :
    F law13_TermBack [.sl (u8s L), .sl (u8s K), .int .u8 f, .int .u8 a, .int .u8 b] H = some (.ret (.bool true), H) := by
  have ht := made13S_ok hL.2
  have hu := made13S_ok hK.2
  have m1 := made13_ok L hL.2 hL.1
  have m2 := made13_ok K hK.2 hK.1
  have rt : rightT 5 10 (made13S L) 3 4 = true := termS_right hL.2 3 3 0 (by omega)
  have ru : rightT 5 10 (made13S K) 3 4 = true := termS_right hK.2 3 3 0 (by omega)
  have st : wt 1 (made13S L) ≤ 600 := Nat.le_trans (termS_wt hL.2 (by omega) 3 3 0) (by decide)
  have su : wt 1 (made13S K) ≤ 600 := Nat.le_trans (termS_wt hK.2 (by omega) 3 3 0) (by decide)
  generalize made13S L = t at *
  generalize made13S K = u at *
  have w1 : IntKind.i64.wrap f = f := wrap64 (by omega) (by omega)
  have w2 : IntKind.i64.wrap a = a := wrap64 (by omega) (by omega)
  have w3 : IntKind.i64.wrap b = b := wrap64 (by omega) (by omega)
  have q1 : f.tmod 5 = f % 5 := Int.tmod_eq_emod_of_nonneg hf.1
  have q2 : a.tmod 9 = a % 9 := Int.tmod_eq_emod_of_nonneg ha.1
  have q3 : b.tmod 9 = b % 9 := Int.tmod_eq_emod_of_nonneg hb.1
  have w4 : IntKind.i64.wrap (a % 9 + b % 9) = a % 9 + b % 9 := wrap64 (by omega) (by omega)
  have bt := shapeB_of rt (by omega) (by omega) st
  have bu := shapeB_of ru (by omega) (by omega) su
  have bl : ∀ (f b : Int), 0 ≤ b ∧ b ≤ 900 → ShapeB (liftT b t f) = true := fun f b h => shapeB_of (right_lift h.1 t f rt) (by omega) (by omega) (by rw [wt_lift]; exact st)
  have l1 : LiftS t 0 1 = (liftT 1 t 0, 0) := LiftS_of bt (bl 0 1 (by omega)) (by omega) (by omega)
  have o1 : OpenS (liftT 1 t 0) u = (t, 0) := by rw [OpenS_of (bl 0 1 (by omega)) bu (by rw [open_lift1]; exact bt), open_lift1]
  have l2 : LiftS t (f % 5) (a % 9) = (liftT (a % 9) t (f % 5), 0) := LiftS_of bt (bl _ _ (by omega)) (by omega) (by omega)
  have e : liftT (b % 9) (liftT (a % 9) t (f % 5)) (f % 5) = liftT (a % 9 + b % 9) t (f % 5) := by
    have := lift_lift (a % 9) (b % 9) 0 (by omega) t (f % 5)
    rwa [Int.add_zero] at this
  have l3 : LiftS (liftT (a % 9) t (f % 5)) (f % 5) (b % 9) = (liftT (a % 9 + b % 9) t (f % 5), 0) := by rw [LiftS_of (bl _ _ (by omega)) (by rw [e]; exact bl _ _ (by omega)) (by omega) (by omega), e]
  have l4 : LiftS t (f % 5) (a % 9 + b % 9) = (liftT (a % 9 + b % 9) t (f % 5), 0) := LiftS_of bt (bl _ _ (by omega)) (by omega) (by omega)
  have k1 := lift_ok 1 t ht 0
  have k2 := lift_ok (a % 9) t ht (f % 5)
  have k3 := lift_ok (a % 9 + b % 9) t ht (f % 5)
  rw [f_law13_TermBack]
  simp only [↓reduceIte, go_sem, awake13_ok, m1, m2, w1, w2, w3, q1, q2, q3, w4, LiftP_ok t ht, LiftP_ok _ k2, l1, l2, l3, l4, OpenP_ok _ _ k1 hu, o1, sameTP_ok _ ht, sameTP_ok _ k3, teEq_refl]

theorem TermTwo_row (L : List Int) (hL : L.length ≤ 140737488355328 ∧ BytesOk L) (K : List Int) (hK : K.length ≤ 140737488355328 ∧ BytesOk K) (J : List Int) (hJ : J.length ≤ 140737488355328 ∧ BytesOk J) (H : List AO) :
    F law13_TermTwo [.sl (u8s L), .sl (u8s K), .sl (u8s J)] H = some (.ret (.bool true), H) := by
  have m1 : ∀ H : List AO, F law13_Term [.ptr H.length 0, .int .i64 4, .int .i64 4] (H ++ [mkr L 0]) = _ := term_new L hL.2 hL.1 3 (by omega) (by decide) 4 (by omega)
  have m2 : ∀ H : List AO, F law13_Term [.ptr H.length 0, .int .i64 3, .int .i64 2] (H ++ [mkr K 0]) = _ := term_new K hK.2 hK.1 1 (by omega) (by decide) 3 (by omega)
  have m3 : ∀ H : List AO, F law13_Term [.ptr H.length 0, .int .i64 2, .int .i64 2] (H ++ [mkr J 0]) = _ := term_new J hJ.2 hJ.1 1 (by omega) (by decide) 2 (by omega)
  have ht := termS_ok hL.2 4 4 0
  have hu := termS_ok hK.2 2 3 0
  have hv := termS_ok hJ.2 2 2 0
  have rt : rightT 5 10 (termS L 4 4 0).1 4 4 = true := termS_right hL.2 3 4 0 (by omega)
  have ru : rightT 5 10 (termS K 2 3 0).1 3 2 = true := termS_right hK.2 1 3 0 (by omega)
  have rv : rightT 5 10 (termS J 2 2 0).1 2 2 = true := termS_right hJ.2 1 2 0 (by omega)
  have st : ∀ x, 1 ≤ x → wt x (termS L 4 4 0).1 ≤ wS x 3 := fun x hx => termS_wt hL.2 hx 3 4 0
  have su : ∀ x, 1 ≤ x → wt x (termS K 2 3 0).1 ≤ wS x 1 := fun x hx => termS_wt hK.2 hx 1 3 0
  have sv : ∀ x, 1 ≤ x → wt x (termS J 2 2 0).1 ≤ wS x 1 := fun x hx => termS_wt hJ.2 hx 1 2 0
  simp only [Nat.reduceAdd] at m1 m2 m3
  generalize termS L 4 4 0 = T1 at *
  generalize termS K 2 3 0 = U1 at *
  generalize termS J 2 2 0 = V1 at *
  obtain ⟨t, at_⟩ := T1
  obtain ⟨u, au⟩ := U1
  obtain ⟨v, av⟩ := V1
  dsimp only at *
  have m1 := m1 H
  have m2 := m2 (H ++ [mkr L at_])
  have m3 := m3 (H ++ [mkr L at_, mkr K au])
  simp only [List.length_append, List.length_cons, List.length_nil, List.append_assoc, List.cons_append, List.nil_append, Nat.reduceAdd] at m1 m2 m3
  have t1 := st 1 (by omega)
  have u1 := su 1 (by omega)
  have v1 := sv 1 (by omega)
  have t4 := st 4 (by omega)
  have u4 := su 4 (by omega)
  have t13 := st 13 (by omega)
  simp only [wS] at t1 u1 v1 t4 u4 t13
  have bt := shapeB_of rt (by omega) (by omega) (by omega)
  have bu := shapeB_of ru (by omega) (by omega) (by omega)
  have bv := shapeB_of rv (by omega) (by omega) (by omega)
  -- a
  have ra : rightT 5 10 (openT u t 0) 3 6 = true := right_open (v := 3) (f := 0) (d := 4) (du := 2) t rt (by omega) (by omega) ru
  have wa : ∀ x X, x ≤ X → wt x u ≤ X → wt x (openT u t 0) ≤ wt X t := fun x X h1 h2 => wt_open h1 h2 t 0
  have a1 := wa 1 4 (by omega) (by omega)
  have a4 := wa 4 13 (by omega) (by omega)
  have ba := shapeB_of ra (by omega) (by omega) (by omega)
  have oa : OpenS t u = (openT u t 0, 0) := OpenS_of bt bu ba
  -- b
  have rb : rightT 5 10 (openT v (openT u t 0) 0) 2 8 = true := right_open (v := 2) (f := 0) (d := 6) (du := 2) _ ra (by omega) (by omega) rv
  have b1 : wt 1 (openT v (openT u t 0) 0) ≤ wt 4 (openT u t 0) := wt_open (by omega) (by omega) _ 0
  have bb := shapeB_of rb (by omega) (by omega) (by omega)
  have ob : OpenS (openT u t 0) v = (openT v (openT u t 0) 0, 0) := OpenS_of ba bv bb
  -- w
  have rw_ : rightT 5 10 (openT v u 0) 2 4 = true := right_open (v := 2) (f := 0) (d := 2) (du := 2) _ ru (by omega) (by omega) rv
  have w1 : wt 1 (openT v u 0) ≤ wt 4 u := wt_open (by omega) (by omega) _ 0
  have bw := shapeB_of rw_ (by omega) (by omega) (by omega)
  have ow : OpenS u v = (openT v u 0, 0) := OpenS_of bu bv bw
  -- a binder around
  have rl : rightT 5 10 (.mk 5 0 [] [.mk 2 0 [.mk 1 0 []] [], t]) 3 5 = true := by
    have e : RightB (.mk 1 0 []) 5 10 = true := by rfl
    simp [rightT, rightTs, kids13, namedB, binds, rt, e]
  have wl : ∀ x, wt x (.mk 5 0 [] [.mk 2 0 [.mk 1 0 []] [], t]) = 2 + wt x t := fun x => by simp [wt, wts]; omega
  have bl := shapeB_of rl (by omega) (by omega) (by rw [wl]; omega)
  have r0 : rightT 5 10 (.mk 1 0 [] []) 2 1 = true := by rfl
  have b0 : ShapeB (.mk 1 0 [] []) = true := by rfl
  have rl0 := right_open (v := 2) (f := 0) (d := 5) (du := 1) _ rl (by omega) (by omega) r0
  have wl0 : wt 1 (openT (.mk 1 0 [] []) (.mk 5 0 [] [.mk 2 0 [.mk 1 0 []] [], t]) 0) ≤ wt 1 (.mk 5 0 [] [.mk 2 0 [.mk 1 0 []] [], t]) := wt_open (by omega) (by simp [wt, wts]) _ 0
  rw [wl] at wl0
  have bl0 := shapeB_of rl0 (by omega) (by omega) (by omega)
  have ol : OpenS (.mk 5 0 [] [.mk 2 0 [.mk 1 0 []] [], t]) (.mk 1 0 [] []) = (openT (.mk 1 0 [] []) (.mk 5 0 [] [.mk 2 0 [.mk 1 0 []] [], t]) 0, 0) := OpenS_of bl b0 bl0
  have rlv := right_open (v := 2) (f := 0) (d := 5) (du := 2) _ rl (by omega) (by omega) rv
  have wlv : wt 1 (openT v (.mk 5 0 [] [.mk 2 0 [.mk 1 0 []] [], t]) 0) ≤ wt 4 (.mk 5 0 [] [.mk 2 0 [.mk 1 0 []] [], t]) := wt_open (by omega) (by omega) _ 0
  rw [wl] at wlv
  have blv := shapeB_of rlv (by omega) (by omega) (by omega)
  have oc : OpenS (.mk 5 0 [] [.mk 2 0 [.mk 1 0 []] [], t]) v = (openT v (.mk 5 0 [] [.mk 2 0 [.mk 1 0 []] [], t]) 0, 0) := OpenS_of bl bv blv
  have x0 : ∀ z : Te, openT z (.mk 5 0 [] [.mk 2 0 [.mk 1 0 []] [], t]) 0 = .mk 5 0 [] [.mk 2 0 [.mk 1 0 []] [], openT z t 1] := fun z => by
    rw [openT]; simp [openTs, openT, binds]
  rw [x0] at ol oc
  -- d
  have rd : rightT 5 10 (openT v t 1) 3 6 = true := right_open (v := 3) (f := 1) (d := 4) (du := 2) t rt (by omega) (by omega) rv
  have wd : wt 1 (openT v t 1) ≤ wt 4 t := wt_open (by omega) (by omega) t 1
  have bd := shapeB_of rd (by omega) (by omega) (by omega)
  have ee : openT (openT v u 0) (openT v t 1) 0 = openT v (openT u t 0) 0 := (open_open u v t 0 (by omega)).symm
  have od : OpenS (openT v t 1) (openT v u 0) = (openT v (openT u t 0) 0, 0) := by rw [OpenS_of bd bw (by rw [ee]; exact bb), ee]
  have k1 := open_ok u hu t ht 0
  have k2 := open_ok v hv _ k1 0
  have k3 := open_ok v hv t ht 1
  have k4 := open_ok v hv u hu 0
  have k5 : (Te.mk 1 0 [] []).ok := okT_var 0
  have k6 : (Te.mk 2 0 [.mk 1 0 []] []).ok := by simp [okT_mk, okL_mk]
  have k7 : (Te.mk 5 0 [] [.mk 2 0 [.mk 1 0 []] [], t]).ok := okT_bind k6 ht
  have hs : ∀ H, F law13_Sort [.agg [.int .i64 1, .int .i64 0, .sl []]] H = some (.ret (.agg (Te.mk 2 0 [.mk 1 0 []] []).cs), H) := fun H => Sort13_ok (.mk 1 0 []) H
  have h0 : ∀ L, AO.box [.sl (u8s L), .int .i64 0] = mkr L 0 := fun _ => rfl
  have c2 : (((2 : Nat) : Int) = 2) = True := by simp
  have tn : Int.toNat 1 = 1 := rfl
  rw [f_law13_TermTwo]
  simp only [↓reduceIte, go_sem, awake13_ok, h0, m1, m2, m3, hs, Var13_ok, tfold2, Bind13_ok, OpenP_ok t u ht hu, OpenP_ok _ v k1 hv, OpenP_ok u v hu hv, OpenP_ok _ _ k7 k5, OpenP_ok _ _ k7 hv, OpenP_ok _ _ k3 k4, oa, ob, ow, ol, oc, od, tcs_d0, tcs_d3, Te.css, c2, tn, sameTP_ok _ k2, teEq_refl]
end Go.Ab
