/- What a term comes to: the program's machine does what the document says. Conditions: none. -/
import Derived.Test.YtgcegmmobpibbaaGreatUg
import Derived.Test.YtgcegmmobpibbaaGreatUc
set_option linter.unusedVariables false
set_option linter.unusedSimpArgs false
set_option maxRecDepth 100000
set_option maxHeartbeats 2000000
namespace Go.Ab
open Go.RowKit Go.Proofs

def sz (t : Te) : Nat := (subs t).length
theorem shape_sz {t : Te} (h : ShapeB t = true) : sz t ≤ 600 := by
  have : parts t 601 ≤ 600 := by unfold ShapeB RightT at h; simp at h; exact h.1
  have := subs_parts t 601 (by omega)
  unfold sz; omega
theorem OpenS_in {b v r : Te} (h : OpenS b v = (r, 0)) : ShapeB b = true ∧ ShapeB v = true ∧ r = openT v b 0 ∧ ShapeB r = true := by
  unfold OpenS at h
  split at h
  · simp at h
  · rename_i hh
    simp only [not_or, Bool.not_eq_false] at hh
    unfold toldT at h
    split at h
    · rename_i hs
      simp only [Prod.mk.injEq, and_true] at h
      subst h
      exact ⟨hh.1, hh.2, rfl, hs⟩
    · simp at h
mutual
theorem subs_subT (ps ms : List Lv) : ∀ t : Te, (subs (subT ps ms t)).length = (subs t).length
  | .mk k n ls ks => by rw [subT, subs, subs, List.length_cons, List.length_cons, subss_subT ps ms ks]
theorem subss_subT (ps ms : List Lv) : ∀ ks : List Te, (subss (subTs ps ms ks)).length = (subss ks).length
  | [] => rfl
  | x :: r => by rw [subTs, subss, subss, List.length_append, List.length_append, subs_subT ps ms x, subss_subT ps ms r]
end
theorem TSubS_in {t r : Te} {ps ms : List Lv} (h : TSubS t ps ms = (r, 0)) : ShapeB t = true ∧ r = subT ps ms t ∧ okTm ps ms t = true := by
  unfold TSubS at h
  split at h
  · simp at h
  · rename_i hh
    simp only [not_or, Bool.not_eq_false] at hh
    split at h
    · rename_i hs
      simp only [Prod.mk.injEq, and_true] at h
      exact ⟨hh.1, h.symm, hs⟩
    · simp at h
theorem OpenS_sz {b v r : Te} (h : OpenS b v = (r, 0)) : sz r ≤ 600 := shape_sz (OpenS_in h).2.2.2
theorem TSubS_sz {t r : Te} {ps ms : List Lv} (h : TSubS t ps ms = (r, 0)) : sz r ≤ 600 := by
  obtain ⟨h1, rfl, _⟩ := TSubS_in h
  have := shape_sz h1
  unfold sz at *
  rw [subs_subT]; exact this
theorem sz_app (N : Int) (ls : List Lv) (f a : Te) : sz (.mk 4 N ls [f, a]) = sz f + sz a + 1 := by
  simp [sz, subs, subss]
theorem Hd.sz {env : List De} {n : Nat} {t t' : Te} {n' : Nat} (h : Hd env n t t' n') : sz t' + 600 * n' ≤ sz t + 600 * n := by
  induction h with
  | stuck => exact Nat.le_refl _
  | lett ho _ ih => have := OpenS_sz ho; omega
  | const _ _ hs _ ih => have := TSubS_sz hs; omega
  | app _ _ ih => rw [sz_app, sz_app]; omega
  | beta h1 ho _ ih1 ih2 => have := OpenS_sz ho; have := h1.le; rw [sz_app]; omega

variable (A X : List AO) (env : List De) (n0 e0 : Int)
theorem hdP_ok (hE : okDs env) {n : Nat} {t t' : Te} {n' : Nat} (h : Hd env n t t' n') : t.ok → n ≤ 1000000 → ∀ (ver : Nat) (es : List Te), es.length + sz t + 600 * n ≤ 1073741823 → ∃ ver', ver ≤ ver' ∧ Lh A X env n0 e0 n 0 ver es t = Lh A X env n0 e0 n' 0 ver' es t' := by
  induction h with
  | stuck => exact fun _ _ ver es _ => ⟨ver, Nat.le_refl _, rfl⟩
  | @lett n N ls s v b r t' n' ho hd ih =>
    intro ht hn ver es hs
    have hb := ht.all b (by simp)
    have hv := ht.all v (by simp)
    have hz := OpenS_sz ho
    obtain ⟨w, h1, h2⟩ := ih (OpenS_ok' ho hb hv) (by omega) ver es (by omega)
    exact ⟨w, h1, by rw [Lh_let A X env n0 e0 n hn ver es N ls s v b hb hv r 0 ho, h2]⟩
  | @const n N ls ks d r t' n' hN hu hs hd ih =>
    intro ht hn ver es hz
    have hz := TSubS_sz hs
    obtain ⟨w, h1, h2⟩ := ih (const_ok hE ht hu hs) (by omega) ver es (by omega)
    exact ⟨w, h1, by rw [Lh_const A X env n0 e0 hE n hn ver es N hN ls ht.all2 ht.len2 ks d hu r 0 hs, h2]⟩
  | @app n N ls f a f' n' hd hk ih =>
    intro ht hn ver es hs
    rw [sz_app] at hs
    obtain ⟨w, h1, h2⟩ := ih (ht.all f (by simp)) hn (ver + 1) (es ++ [a]) (by simp; omega)
    obtain ⟨w, rfl⟩ : ∃ u, w = u + 1 := ⟨w - 1, by omega⟩
    exact ⟨w, by omega, by rw [Lh_app A X env n0 e0 n ver es (by omega) N ls f a, h2, Lh_app A X env n0 e0 n' w es (by omega) 0 [] f' a]⟩
  | @beta n N ls f a N2 ls2 s b m r t' n' hd ho hd2 ih1 ih2 =>
    intro ht hn ver es hs
    rw [sz_app] at hs
    have hf := ht.all f (by simp)
    have ha := ht.all a (by simp)
    have hl := hd.ok hE hf
    have hle := hd.le
    have hb := hl.all b (by simp)
    have hz := OpenS_sz ho
    obtain ⟨w, h1, h2⟩ := ih1 hf hn (ver + 1) (es ++ [a]) (by simp; omega)
    obtain ⟨u, h3, h4⟩ := ih2 (OpenS_ok' ho hb ha) (by omega) (w + 1) es (by omega)
    exact ⟨u, by omega, by rw [Lh_app A X env n0 e0 n ver es (by omega) N ls f a, h2, Lh_lam A X env n0 e0 m (by omega) w es (by omega) a ha N2 ls2 s b hb r 0 ho, h4]⟩
theorem nfP_ok {n : Nat} {t t' : Te} {n' : Nat} (h : Hd env n t t' n') : ∀ (m : Nat) (ver : Nat) (es : List Te), (t'.kind = 5 → es = []) → es.length + sz t' ≤ 1073741823 → Lh A X env n0 e0 m 0 ver es t' = some (.ret (.agg (rebuild t' es).cs), A ++ (.box [.sl (De.css env), .int .i64 m, .int .i64 0] :: X)) := by
  induction h with
  | @stuck n k N ls ks h4 h7 h3 =>
    intro m ver es h5 hs
    refine Lh_fin A X env n0 e0 m 0 ver es (by omega) k N ls ks (.inr ⟨rfl, ?_⟩)
    by_cases k3 : k = 3
    · exact .inr (.inl ⟨k3, h3 k3⟩)
    · by_cases k5 : k = 5
      · exact .inr (.inr ⟨k5, h5 k5⟩)
      · exact .inl ⟨h7, k3, k5, h4⟩
  | lett _ _ ih => exact ih
  | const _ _ _ _ ih => exact ih
  | @app n N ls f a f' n' hd hk ih =>
    intro m ver es _ hs
    rw [sz_app] at hs
    rw [Lh_app A X env n0 e0 m ver es (by omega) 0 [] f' a, ih m (ver + 1) (es ++ [a]) (fun h => absurd h hk) (by simp; omega), rebuild_snoc]
  | beta _ _ _ _ ih => exact ih
theorem heP_ok (hE : okDs env) {n : Nat} {t : Te} {n' : Nat} {e : Int} (h : He env n t n' e) : t.ok → n ≤ 1000000 → ∀ (ver : Nat) (es : List Te), es.length + sz t + 600 * n ≤ 1073741823 →
    ∃ x : Te, Lh A X env n0 e0 n 0 ver es t = some (.ret (.agg x.cs), A ++ (.box [.sl (De.css env), .int .i64 n', .int .i64 e] :: X)) := by
  have fin : ∀ (m e : Int) (ver : Nat) (es : List Te) (x : Te), e ≠ 0 → es.length ≤ 1073741824 → ∃ y : Te, Lh A X env n0 e0 m e ver es x = some (.ret (.agg y.cs), A ++ (.box [.sl (De.css env), .int .i64 m, .int .i64 e] :: X)) := by
    intro m e ver es x he hes
    rcases x with ⟨k, N, ls, ks⟩
    exact ⟨_, Lh_fin A X env n0 e0 m e ver es hes k N ls ks (.inl he)⟩
  induction h with
  | @let0 N ls s v b =>
    intro ht hn ver es hs
    have := Lh_let0 A X env n0 e0 ver es N ls [s, v, b]
    rw [Int.natCast_zero, this]
    exact fin 0 40 ver es _ (by decide) (by omega)
  | @let2 n N ls s v b r e ho he =>
    intro ht hn ver es hs
    rw [Lh_let A X env n0 e0 n hn ver es N ls s v b (ht.all b (by simp)) (ht.all v (by simp)) r e ho]
    exact fin n e ver es r he (by omega)
  | @letr n N ls s v b r n' e ho hd ih =>
    intro ht hn ver es hs
    have hb := ht.all b (by simp)
    have hv := ht.all v (by simp)
    have hz := OpenS_sz ho
    rw [Lh_let A X env n0 e0 n hn ver es N ls s v b hb hv r 0 ho]
    exact ih (OpenS_ok' ho hb hv) (by omega) ver es (by omega)
  | @const0 N ls ks d hN hu =>
    intro ht hn ver es hs
    have := Lh_const0 A X env n0 e0 ver es N hN ls ks d hu
    rw [Int.natCast_zero, this]
    exact fin 0 40 ver es _ (by decide) (by omega)
  | @const2 n N ls ks d r e hN hu hs he =>
    intro ht hn ver es hz
    rw [Lh_const A X env n0 e0 hE n hn ver es N hN ls ht.all2 ht.len2 ks d hu r e hs]
    exact fin n e ver es r he (by omega)
  | @constr n N ls ks d r n' e hN hu hs hd ih =>
    intro ht hn ver es hz
    have hz := TSubS_sz hs
    rw [Lh_const A X env n0 e0 hE n hn ver es N hN ls ht.all2 ht.len2 ks d hu r 0 hs]
    exact ih (const_ok hE ht hu hs) (by omega) ver es (by omega)
  | @appf n N ls f a n' e hd ih =>
    intro ht hn ver es hs
    rw [sz_app] at hs
    rw [Lh_app A X env n0 e0 n ver es (by omega) N ls f a]
    exact ih (ht.all f (by simp)) hn (ver + 1) (es ++ [a]) (by simp; omega)
  | @beta0 n N ls f a N2 ls2 s b hd =>
    intro ht hn ver es hs
    rw [sz_app] at hs
    obtain ⟨w, h1, h2⟩ := hdP_ok A X env n0 e0 hE hd (ht.all f (by simp)) hn (ver + 1) (es ++ [a]) (by simp; omega)
    rw [Lh_app A X env n0 e0 n ver es (by omega) N ls f a, h2, Int.natCast_zero, Lh_lam0 A X env n0 e0 w es (by omega) a N2 ls2 [s, b]]
    exact fin 0 40 _ es _ (by decide) (by omega)
  | @beta2 n N ls f a N2 ls2 s b m r e hd ho he =>
    intro ht hn ver es hs
    rw [sz_app] at hs
    have hf := ht.all f (by simp)
    have ha := ht.all a (by simp)
    have hl := hd.ok hE hf
    have hle := hd.le
    have hb := hl.all b (by simp)
    obtain ⟨w, h1, h2⟩ := hdP_ok A X env n0 e0 hE hd hf hn (ver + 1) (es ++ [a]) (by simp; omega)
    rw [Lh_app A X env n0 e0 n ver es (by omega) N ls f a, h2, Lh_lam A X env n0 e0 m (by omega) w es (by omega) a ha N2 ls2 s b hb r e ho]
    exact fin m e _ es r he (by omega)
  | @betar n N ls f a N2 ls2 s b m r n' e hd ho hd2 ih2 =>
    intro ht hn ver es hs
    rw [sz_app] at hs
    have hf := ht.all f (by simp)
    have ha := ht.all a (by simp)
    have hl := hd.ok hE hf
    have hle := hd.le
    have hb := hl.all b (by simp)
    have hz := OpenS_sz ho
    obtain ⟨w, h1, h2⟩ := hdP_ok A X env n0 e0 hE hd hf hn (ver + 1) (es ++ [a]) (by simp; omega)
    rw [Lh_app A X env n0 e0 n ver es (by omega) N ls f a, h2, Lh_lam A X env n0 e0 m (by omega) w es (by omega) a ha N2 ls2 s b hb r 0 ho]
    exact ih2 (OpenS_ok' ho hb ha) (by omega) (w + 1) es (by omega)
theorem HeadP_ok (hE : okDs env) {n : Nat} {t t' : Te} {n' : Nat} (h : Hd env n t t' n') (ht : t.ok) (hs : sz t + 600 * n ≤ 500000000) :
    F reduce_Machine_Head [.ptr A.length 0, .agg t.cs] (A ++ (.box [.sl (De.css env), .int .i64 n, .int .i64 0] :: X)) = some (.ret (.agg t'.cs), A ++ (.box [.sl (De.css env), .int .i64 n', .int .i64 0] :: X)) := by
  obtain ⟨w, _, h2⟩ := hdP_ok A X env n 0 hE h ht (by omega) 0 [] (by simp; omega)
  have := h.sz
  rw [HeadP_L, h2, nfP_ok A X env n 0 h n' w [] (fun _ => rfl) (by simp; omega), rebuild_nil]
theorem HeadP_er (hE : okDs env) {n : Nat} {t : Te} {n' : Nat} {e : Int} (h : He env n t n' e) (ht : t.ok) (hs : sz t + 600 * n ≤ 500000000) :
    ∃ x : Te, F reduce_Machine_Head [.ptr A.length 0, .agg t.cs] (A ++ (.box [.sl (De.css env), .int .i64 n, .int .i64 0] :: X)) = some (.ret (.agg x.cs), A ++ (.box [.sl (De.css env), .int .i64 n', .int .i64 e] :: X)) := by
  rw [HeadP_L]
  exact heP_ok A X env n 0 hE h ht (by omega) 0 [] (by simp; omega)
theorem Head16_ok (hE : okDs env) {n : Nat} {t t' : Te} {n' : Nat} (h : Hd env n t t' n') (ht : t.ok) (hn : n ≤ 1000000) :
    F ref16_Machine_Head [.ptr A.length 0, .agg t.cs] (A ++ (.box [.sl (De.css env), .int .i64 n, .int .i64 0] :: X)) = some (.ret (.agg t'.cs), A ++ (.box [.sl (De.css env), .int .i64 n', .int .i64 0] :: X)) := by
  rw [Head16_L]; exact head16_ok env hE h ht hn A X n 0
theorem Head16_er (hE : okDs env) {n : Nat} {t : Te} {n' : Nat} {e : Int} (h : He env n t n' e) (ht : t.ok) (hn : n ≤ 1000000) :
    ∃ x : Te, F ref16_Machine_Head [.ptr A.length 0, .agg t.cs] (A ++ (.box [.sl (De.css env), .int .i64 n, .int .i64 0] :: X)) = some (.ret (.agg x.cs), A ++ (.box [.sl (De.css env), .int .i64 n', .int .i64 e] :: X)) := by
  obtain ⟨x, _, h⟩ := head16_er env hE h ht hn A X n 0
  exact ⟨x, by rw [Head16_L]; exact h⟩
end Go.Ab
