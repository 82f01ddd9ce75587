/- Layer 16: terms and declarations by numbers are right. Conditions: none. -/
import Derived.Test.YtgcegmmobpibbaaUo
import Derived.Test.YtgcegmmobpibbaaUn
import Derived.Test.YtgcegmmobpibbaaTz
set_option linter.unusedVariables false
set_option linter.unusedSimpArgs false
set_option maxRecDepth 100000
set_option maxHeartbeats 4000000
namespace Go.Ab
open Go.RowKit Go.Proofs


theorem levelS_Rp {L : List Int} (hL : BytesOk L) {p : Int} (hp0 : 0 ≤ p) (hp : p ≤ 5) (d : Nat) (hd : d ≤ 5) (a : Int) : RightB (levelS L p 0 d a).1 p 0 = true := by
  have h1 := levelS_right hL (Int.le_refl p) (Int.le_refl 0) d a 12 (by omega)
  have h2 := levelS_sz L p 0 d a
  have h3 := nodes_lsz (levelS L p 0 d a).1 101
  have h4 : 2 ^ (d + 1) ≤ 2 ^ 6 := Nat.pow_le_pow_right (by omega) (by omega)
  unfold RightB
  simp [h1]; omega
theorem levelsC_Rp {L : List Int} (hL : BytesOk L) {p : Int} (hp0 : 0 ≤ p) (hp : p ≤ 5) : ∀ (i : Nat) (a : Int), (levelsC L p i a).1.all (fun x => RightB x p 0) = true
  | 0, a => rfl
  | i + 1, a => by
    rw [levelsC]
    simp only [List.all_cons, levelS_Rp hL hp0 hp 2 (by omega) a, levelsC_Rp hL hp0 hp i, Bool.and_self]
theorem closedS_right {L : List Int} (hL : BytesOk L) {c p : Int} (hc : c ≤ 20) (hp0 : 0 ≤ p) (hp : p ≤ 5) : ∀ (d : Nat) (v a : Int), 0 ≤ v → rightT p 0 (closedS L c p (d + 1) v a).1 v (d + 1) = true := by
  intro d
  induction d with
  | zero =>
    intro v a hv
    have hl := levelS_Rp hL hp0 hp 2 (by omega) (a + 1)
    have hls := levelsC_Rp hL hp0 hp (pickS L (a + 1 + 1) 3).toNat (a + 1 + 1 + 1)
    have hln := (levelsC_ok L p (pickS L (a + 1 + 1) 3).toNat (a + 1 + 1 + 1)).1
    have hp3 := pick_range hL (a + 1 + 1) (n := 3) (by omega)
    have hpc : 0 < c → 0 ≤ pickS L (a + 1) c ∧ pickS L (a + 1) c < c := fun h => pick_range hL _ h
    have hpv : 0 < v → 0 ≤ pickS L (a + 1) v ∧ pickS L (a + 1) v < v := fun h => pick_range hL _ h
    have hk := pick_range hL a (n := 12) (by omega)
    rw [closedS]
    dsimp only
    rw [if_pos rfl]
    generalize pickS L a 12 = k0 at *
    have hk4 : k0.tmod 5 < 5 := by rw [Int.tmod_eq_emod_of_nonneg hk.1]; omega
    generalize k0.tmod 5 = k at *
    split
    · rename_i h; simp [rightT, rightTs, kids13, namedB]; exact hpv h.2
    split
    · rename_i h; have := hpc h.2; simp [rightT, rightTs, kids13, namedB, hln]; exact ⟨by simpa using hls, by omega⟩
    · simp [rightT, rightTs, kids13, namedB, hl, hk4]
  | succ d ih =>
    intro v a hv
    have hl := levelS_Rp hL hp0 hp 2 (by omega) (a + 1)
    have hls := levelsC_Rp hL hp0 hp (pickS L (a + 1 + 1) 3).toNat (a + 1 + 1 + 1)
    have hln := (levelsC_ok L p (pickS L (a + 1 + 1) 3).toNat (a + 1 + 1 + 1)).1
    have hp3 := pick_range hL (a + 1 + 1) (n := 3) (by omega)
    have hpc : 0 < c → 0 ≤ pickS L (a + 1) c ∧ pickS L (a + 1) c < c := fun h => pick_range hL _ h
    have hpv : 0 < v → 0 ≤ pickS L (a + 1) v ∧ pickS L (a + 1) v < v := fun h => pick_range hL _ h
    have i1 := fun a => ih v a hv
    have i2 := fun a => ih (v + 1) a (by omega)
    have hd : ¬ (((d + 1 : Nat) : Int) + 1 < 1) := by omega
    have hd' : ¬ ((d : Int) + 1 + 1 < 1) := by omega
    have hd2 : ((d + 1 : Nat) : Int) + 1 - 1 = (d : Int) + 1 := by omega
    rw [closedS]
    dsimp only
    rw [if_neg (show ¬ (d + 1 = 0) by omega)]
    generalize pickS L a 12 = k at *
    split
    · rename_i h; simp [rightT, rightTs, kids13, namedB, hd, hd']; exact hpv h.2
    split
    · rename_i h; have := hpc h.2; simp [rightT, rightTs, kids13, namedB, hln, hd, hd']; exact ⟨by simpa using hls, by omega⟩
    split
    · simp [rightT, rightTs, kids13, namedB, hl, hd, hd']
    split
    · simp only [rightT, rightTs, kids13, namedB, hd, hd2]; simp [binds, i1, i2]
    split
    · simp only [rightT, rightTs, kids13, namedB, hd, hd2]; simp [binds, i1, i2]
    split
    · simp only [rightT, rightTs, kids13, namedB, hd, hd2]; simp [binds, i1, i2]
    · simp only [rightT, rightTs, kids13, namedB, hd, hd2]; simp [binds, i1, i2]
theorem closedS_sz (L : List Int) (c p : Int) : ∀ (d : Nat) (v a : Int), 2 * sz (closedS L c p d v a).1 + 1 ≤ 3 ^ (d + 1)
  | 0, v, a => by simp [closedS, sz, subs, subss]
  | d + 1, v, a => by
    have h := closedS_sz L c p d
    have hp : 3 ^ (d + 1 + 1) = 3 * 3 ^ (d + 1) := by rw [Nat.pow_succ]; omega
    have hq : 1 ≤ 3 ^ d := Nat.pow_pos (by decide)
    have hq2 : 3 ^ (d + 1) = 3 * 3 ^ d := by rw [Nat.pow_succ]; omega
    have h1 := h v (a + 1)
    have h2 := h v (closedS L c p d v (a + 1)).2
    have h3 := h (v + 1) (closedS L c p d v (a + 1)).2
    have h4 := h (v + 1) (closedS L c p d v (closedS L c p d v (a + 1)).2).2
    rw [closedS]
    dsimp only
    repeat' split
    all_goals first
      | (simp only [sz_two, sz_let]; omega)
      | (simp [sz, subs, subss] <;> omega)
theorem closedS_consts {L : List Int} (hL : BytesOk L) (c p : Int) : ∀ (d : Nat) (v a : Int), ∀ x ∈ consN (subs (closedS L c p d v a).1), x < c
  | 0, v, a => by simp [closedS, subs, subss, consN, Te.kind]
  | d + 1, v, a => by
    have h := closedS_consts hL c p d
    have h1 := h v (a + 1)
    have h2 := h v (closedS L c p d v (a + 1)).2
    have h3 := h (v + 1) (closedS L c p d v (a + 1)).2
    have h4 := h (v + 1) (closedS L c p d v (closedS L c p d v (a + 1)).2).2
    have hpc : 0 < c → 0 ≤ pickS L (a + 1) c ∧ pickS L (a + 1) c < c := fun h => pick_range hL _ h
    rw [closedS]
    dsimp only
    repeat' split
    all_goals
      intro x hx
      simp [subs, subss, consN, consN_app, Te.kind, Te.n] at hx <;> first
        | (subst hx; rename_i hh; exact (hpc hh.2).2)
        | (rcases hx with hx | hx; exact h1 x hx; first | exact h2 x hx | exact h3 x hx)
        | (rcases hx with hx | hx | hx; exact h1 x hx; exact h2 x hx; exact h4 x hx)


theorem onceL_sub : ∀ (xs out : List Int) (x : Int), x ∈ onceL out xs → x ∈ out ∨ x ∈ xs
  | [], out, x, h => .inl h
  | n :: r, out, x, h => by
    rw [onceL] at h
    rcases onceL_sub r _ x h with h | h
    · split at h
      · exact .inl h
      · simp at h
        rcases h with h | h
        · exact .inl h
        · exact .inr (by simp [h])
    · exact .inr (by simp [h])
theorem closed_may {L : List Int} (hL : BytesOk L) {c p : Int} (hc : c ≤ 20) (hp0 : 0 ≤ p) (hp : p ≤ 5) (d : Nat) (hd : d ≤ 4) (a : Int) : mayT (closedS L c p (d + 1) 0 a).1 p c = true := by
  have h1 := closedS_right hL hc hp0 hp d 0 a (by omega)
  have h2 := right_mono _ h1 (v' := 0) (d' := 30) (by omega) (by omega)
  have h3 := closedS_sz L c p (d + 1) 0 a
  have h4 : 3 ^ (d + 1 + 1) ≤ 3 ^ 6 := Nat.pow_le_pow_right (by omega) (by omega)
  have h5 := parts_sz (closedS L c p (d + 1) 0 a).1 601
  have h6 := closedS_consts hL c p (d + 1) 0 a
  unfold mayT RightT
  rw [Bool.and_eq_true]
  constructor
  · simp [h2]; omega
  · rw [List.all_eq_true]
    intro x hx
    unfold constL at hx
    rcases onceL_sub _ _ _ hx with h | h
    · cases h
    · simpa using h6 x h
theorem declS_right {L : List Int} (hL : BytesOk L) {c : Int} (hc : c ≤ 20) : declB (declS L c).1 c = true := by
  have hp := pick_range hL 0 (n := 3) (by omega)
  have hcs : RightCs (declK L).1 (pickS L 0 3) = true := by
    unfold RightCs declK
    split
    · simp [con1, rightC, Co.a, Co.b, levelS_Rp hL hp.1 (show pickS L 0 3 ≤ 5 by omega) 2 (by omega)]; omega
    · simp; omega
  have ht := fun a => closed_may hL hc hp.1 (show pickS L 0 3 ≤ 5 by omega) 2 (by omega) a
  have hv := fun a => closed_may hL hc hp.1 (show pickS L 0 3 ≤ 5 by omega) 3 (by omega) a
  rw [declS]
  unfold declB
  split
  · simp only [De.cons, De.p, De.type, De.has, De.value, hcs, ht, hv, if_true, Bool.and_self]
  · simp only [De.cons, De.p, De.type, De.has, De.value, hcs, ht, if_false, Bool.and_self, Bool.false_eq_true, teEq_refl]
theorem envF_right : ∀ (l : List (List Int)) (i : Nat), (∀ x ∈ l, x.length ≤ 140737488355328 ∧ BytesOk x) → declsB (envF l i) i = true
  | [], _, _ => rfl
  | x :: r, i, h => by
    rw [envF]
    split
    · rw [declsB, Bool.and_eq_true]
      exact ⟨declS_right (h x (by simp)).2 (by omega), by have := envF_right r (i + 1) (fun y hy => h y (by simp [hy])); simpa using this⟩
    · rfl
theorem envF_four : ∀ (l : List (List Int)) (i : Nat), (envF l i).length + i ≤ max i 4
  | [], i => by simp [envF]; omega
  | x :: r, i => by
    have := envF_four r (i + 1)
    rw [envF]
    split <;> simp <;> omega
theorem env_right {l : List (List Int)} (hl : BsOk l) : RightD (envF l 0) = true := by
  have h1 := envF_right l 0 hl.2
  have h2 := envF_four l 0
  unfold RightD
  rw [Bool.and_eq_true]
  exact ⟨h1, by simp; omega⟩
theorem closed_inv {L : List Int} (hL : BytesOk L) (d : Nat) (hd : d ≤ 4) (v : Int) (hv : 0 ≤ v ∧ v ≤ 2) : rightT 5 10 (closedS L 4 3 (d + 1) v 0).1 v (d + 1) = true ∧ sz (closedS L 4 3 (d + 1) v 0).1 ≤ 364 := by
  have h1 := closedS_right hL (show (4 : Int) ≤ 20 by omega) (show (0 : Int) ≤ 3 by omega) (by omega) d v 0 hv.1
  have h3 := closedS_sz L 4 3 (d + 1) v 0
  have h4 : 3 ^ (d + 1 + 1) ≤ 3 ^ 6 := Nat.pow_le_pow_right (by omega) (by omega)
  exact ⟨right_pm (by omega) (by omega) (by omega) (by omega) h1, by omega⟩
theorem ReduceAgain_ok (l : List (List Int)) (hl : BsOk l) (K : List Int) (hK : BytesOk K) (hlen : K.length ≤ 140737488355328) (f : Int) (hf : 0 ≤ f ∧ f < 65536) (w : Int) (hw : 0 ≤ w ∧ w < 256) (H : List AO) :
    F law16_ReduceAgain [.sl (u8ss l), .sl (u8s K), .int .u16 f, .int .u8 w] H = some (.ret (.bool true), H) := by
  have hE := fun H => env_ok l hl H
  have hD := env_okDs hl
  have hR := env_right hl
  have hC : ∀ H, F law16_closed [.ptr H.length 0, .int .i64 4, .int .i64 3, .int .i64 2, .int .i64 5] (H ++ [mkr K 0]) = _ := fun H => closed_new 4 3 (by omega) (by omega) K hK hlen 4 (by omega) (by decide) 2 (by omega) H
  have ht := closedS_ok hK 4 3 5 2 0
  have hi := closed_inv hK 4 (by omega) 2 (by omega)
  have h0 : AO.box [.sl (u8s K), .int .i64 0] = mkr K 0 := rfl
  have hf0 : 0 ≤ f.tmod 301 := Int.tmod_nonneg 301 hf.1
  have hf1 : f.tmod 301 < 301 := Int.tmod_lt_of_pos _ (by decide)
  rw [show (4 : Nat) + 1 = 5 from rfl] at hC hi
  generalize hE2 : envF l 0 = env at *
  generalize closedS K 4 3 5 2 0 = q at *
  rcases q with ⟨t, b⟩
  dsimp only at hC ht hi
  have hinv : inv t := ⟨by omega, right_mono t hi.1 (by omega) (by omega)⟩
  have hS := hinv.shape
  obtain ⟨r, hr⟩ := red_total env t (f.tmod 301)
  have h1 := fun H => ReduceP_ok env hD t ht _ r hr H
  have hw1 : IntKind.i64.wrap f = f := wrap64 (by omega) (by omega)
  have hw2 : IntKind.i64.wrap w = w := wrap64 (by omega) (by omega)
  have hw3 : IntKind.i64.wrap (f.tmod 301 + w) = f.tmod 301 + w := wrap64 (by omega) (by omega)
  have er : ∀ e : Int, (∀ H, F reduce_Reduce [.sl (De.css env), .agg t.cs, .int .i64 (f.tmod 301)] H = some (.ret (resN (zeroT, 0, e)), H)) → (e = 2 ∨ e = 40) → F law16_ReduceAgain [.sl (u8ss l), .sl (u8s K), .int .u16 f, .int .u8 w] H = some (.ret (.bool true), H) := by
    intro e h1 he
    rcases t with ⟨k, n, ls, ks⟩
    simp only [resN, zeroT, Te.cs, Lv.css, Te.css] at h1 hC
    rw [f_law16_ReduceAgain]
    rcases he with rfl | rfl <;>
      simp only [↓reduceIte, go_sem, awake16_ok, hE, h0, hC, h1, hw1, show ¬ ((2 : Int) = 0) by decide, show ¬ ((40 : Int) = 0) by decide, show ¬ ((2 : Int) = 40) by decide]
  cases hr with
  | arg h =>
    exfalso
    rcases h with h | h | h | h
    · rw [hR] at h; cases h
    · rw [hS] at h; cases h
    · omega
    · omega
  | er _ _ _ _ hd => exact er _ h1 (hd.two hR hinv)
  | long => exact er _ h1 (.inl rfl)
  | @ok n n' t' g1 g2 g3 g4 hd hs =>
    have ht' := hd.ok hD ht
    have hle := hd.le
    obtain ⟨w', rfl⟩ := Int.eq_ofNat_of_zero_le hw.1
    have r2 : RedS env t' 0 (t', 0, 0) := .ok (n := 0) (n' := 0) g1 hs rfl (by omega) (hd.again 0) hs
    have r3 : RedS env t (f.tmod 301 + (w' : Int)) (t', ((n' + w' : Nat) : Int), 0) := .ok (n := n + w') g1 g2 (by rw [g3]; omega) (by omega) (hd.more w') hs
    have h2 := fun H => ReduceP_ok env hD t' ht' _ _ r2 H
    have h3 := fun H => ReduceP_ok env hD t ht _ _ r3 H
    have h4 := fun H => same13_ok t' ht' t' H
    rw [teEq_refl] at h4
    have hw4 : IntKind.i64.wrap ((n' : Int) + (w' : Int)) = (n' : Int) + (w' : Int) := wrap64 (by omega) (by omega)
    rcases t with ⟨k, nn, ls, ks⟩
    rcases t' with ⟨k2, nn2, ls2, ks2⟩
    simp only [resN, Te.cs, Int.natCast_add] at h1 h2 h3 h4 hC
    rw [f_law16_ReduceAgain]
    simp only [↓reduceIte, go_sem, awake16_ok, hE, h0, hC, h1, h2, h3, h4, hw1, hw2, hw3, hw4]
theorem ReduceAgain_row (l : List (List Int)) (hl : BsOk l) (K : List Int) (hK : K.length ≤ 140737488355328 ∧ BytesOk K) (f : Int) (hf : 0 ≤ f ∧ f < 65536) (w : Int) (hw : 0 ≤ w ∧ w < 256) (H : List AO) :
    F law16_ReduceAgain [.sl (l.map fun l => [.sl (u8s l)]), .sl (u8s K), .int .u16 f, .int .u8 w] H = some (.ret (.bool true), H) :=
  ReduceAgain_ok l hl K hK.2 hK.1 f hf w hw H
end Go.Ab
