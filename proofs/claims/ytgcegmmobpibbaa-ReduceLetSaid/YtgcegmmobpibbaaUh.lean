/- What a term comes to: the program's machine does what the document says. Conditions: none. -/
import Derived.Test.YtgcegmmobpibbaaUf
import Derived.Test.YtgcegmmobpibbaaUb
set_option linter.unusedVariables false
set_option linter.unusedSimpArgs false
set_option maxRecDepth 100000
set_option maxHeartbeats 2000000
namespace Go.Ab
open Go.RowKit Go.Proofs


def sz (t : Te) : Nat := (subs t).length
theorem shape_sz {t : Te} (h : ShapeB t = true) : sz t ≤ 600 := by
  have : parts t 601 ≤ 600 := by unfold ShapeB RightT at h; simp at h; exact h.1
  have := subs_parts t 601 (by omega)
  unfold sz; omega
theorem OpenS_in {b v r : Te} (h : OpenS b v = (r, 0)) : ShapeB b = true ∧ ShapeB v = true ∧ r = openT v b 0 ∧ ShapeB r = true := by
  unfold OpenS at h
  split at h
  · simp at h
  · rename_i hh
    simp only [not_or, Bool.not_eq_false] at hh
    unfold toldT at h
    split at h
    · rename_i hs
      simp only [Prod.mk.injEq, and_true] at h
      subst h
      exact ⟨hh.1, hh.2, rfl, hs⟩
    · simp at h
mutual
theorem subs_subT (ps ms : List Lv) : ∀ t : Te, (subs (subT ps ms t)).length = (subs t).length
  | .mk k n ls ks => by rw [subT, subs, subs, List.length_cons, List.length_cons, subss_subT ps ms ks]
theorem subss_subT (ps ms : List Lv) : ∀ ks : List Te, (subss (subTs ps ms ks)).length = (subss ks).length
  | [] => rfl
  | x :: r => by rw [subTs, subss, subss, List.length_append, List.length_append, subs_subT ps ms x, subss_subT ps ms r]
end
theorem TSubS_in {t r : Te} {ps ms : List Lv} (h : TSubS t ps ms = (r, 0)) : ShapeB t = true ∧ r = subT ps ms t ∧ okTm ps ms t = true := by
  unfold TSubS at h
  split at h
  · simp at h
  · rename_i hh
    simp only [not_or, Bool.not_eq_false] at hh
    split at h
    · rename_i hs
      simp only [Prod.mk.injEq, and_true] at h
      exact ⟨hh.1, h.symm, hs⟩
    · simp at h
theorem OpenS_sz {b v r : Te} (h : OpenS b v = (r, 0)) : sz r ≤ 600 := shape_sz (OpenS_in h).2.2.2
theorem TSubS_sz {t r : Te} {ps ms : List Lv} (h : TSubS t ps ms = (r, 0)) : sz r ≤ 600 := by
  obtain ⟨h1, rfl, _⟩ := TSubS_in h
  have := shape_sz h1
  unfold sz at *
  rw [subs_subT]; exact this
theorem sz_app (N : Int) (ls : List Lv) (f a : Te) : sz (.mk 4 N ls [f, a]) = sz f + sz a + 1 := by
  simp [sz, subs, subss]
theorem Hd.sz {env : List De} {n : Nat} {t t' : Te} {n' : Nat} (h : Hd env n t t' n') : sz t' + 600 * n' ≤ sz t + 600 * n := by
  induction h with
  | stuck => exact Nat.le_refl _
  | lett ho _ ih => have := OpenS_sz ho; omega
  | const _ _ hs _ ih => have := TSubS_sz hs; omega
  | app _ _ ih => rw [sz_app, sz_app]; omega
  | beta h1 ho _ ih1 ih2 => have := OpenS_sz ho; have := h1.le; rw [sz_app]; omega

variable (A X : List AO) (env : List De) (n0 e0 : Int)
theorem hdP_ok (hE : okDs env) {n : Nat} {t t' : Te} {n' : Nat} (h : Hd env n t t' n') : t.ok → n ≤ 1000000 → ∀ (ver : Nat) (es : List Te), es.length + sz t + 600 * n ≤ 1073741823 → ∃ ver', ver ≤ ver' ∧ Lh A X env n0 e0 n 0 ver es t = Lh A X env n0 e0 n' 0 ver' es t' := by
  induction h with
  | stuck => exact fun _ _ ver es _ => ⟨ver, Nat.le_refl _, rfl⟩
  | @lett n N ls s v b r t' n' ho hd ih =>
    intro ht hn ver es hs
    have hb := ht.all b (by simp)
    have hv := ht.all v (by simp)
    have hz := OpenS_sz ho
    obtain ⟨w, h1, h2⟩ := ih (OpenS_ok' ho hb hv) (by omega) ver es (by omega)
    exact ⟨w, h1, by rw [Lh_let A X env n0 e0 n hn ver es N ls s v b hb hv r 0 ho, h2]⟩
  | @const n N ls ks d r t' n' hN hu hs hd ih =>
    intro ht hn ver es hz
    have hz := TSubS_sz hs
    obtain ⟨w, h1, h2⟩ := ih (const_ok hE ht hu hs) (by omega) ver es (by omega)
    exact ⟨w, h1, by rw [Lh_const A X env n0 e0 hE n hn ver es N hN ls ht.all2 ht.len2 ks d hu r 0 hs, h2]⟩
  | @app n N ls f a f' n' hd hk ih =>
    intro ht hn ver es hs
    rw [sz_app] at hs
    obtain ⟨w, h1, h2⟩ := ih (ht.all f (by simp)) hn (ver + 1) (es ++ [a]) (by simp; omega)
    obtain ⟨w, rfl⟩ : ∃ u, w = u + 1 := ⟨w - 1, by omega⟩
    exact ⟨w, by omega, by rw [Lh_app A X env n0 e0 n ver es (by omega) N ls f a, h2, Lh_app A X env n0 e0 n' w es (by omega) 0 [] f' a]⟩
  | @beta n N ls f a N2 ls2 s b m r t' n' hd ho hd2 ih1 ih2 =>
    intro ht hn ver es hs
    rw [sz_app] at hs
    have hf := ht.all f (by simp)
    have ha := ht.all a (by simp)
    have hl := hd.ok hE hf
    have hle := hd.le
    have hb := hl.all b (by simp)
    have hz := OpenS_sz ho
    obtain ⟨w, h1, h2⟩ := ih1 hf hn (ver + 1) (es ++ [a]) (by simp; omega)
    obtain ⟨u, h3, h4⟩ := ih2 (OpenS_ok' ho hb ha) (by omega) (w + 1) es (by omega)
    exact ⟨u, by omega, by rw [Lh_app A X env n0 e0 n ver es (by omega) N ls f a, h2, Lh_lam A X env n0 e0 m (by omega) w es (by omega) a ha N2 ls2 s b hb r 0 ho, h4]⟩
theorem nfP_ok {n : Nat} {t t' : Te} {n' : Nat} (h : Hd env n t t' n') : ∀ (m : Nat) (ver : Nat) (es : List Te), (t'.kind = 5 → es = []) → es.length + sz t' ≤ 1073741823 → Lh A X env n0 e0 m 0 ver es t' = some (.ret (.agg (rebuild t' es).cs), A ++ (.box [.sl (De.css env), .int .i64 m, .int .i64 0] :: X)) := by
  induction h with
  | @stuck n k N ls ks h4 h7 h3 =>
    intro m ver es h5 hs
    refine Lh_fin A X env n0 e0 m 0 ver es (by omega) k N ls ks (.inr ⟨rfl, ?_⟩)
    by_cases k3 : k = 3
    · exact .inr (.inl ⟨k3, h3 k3⟩)
    · by_cases k5 : k = 5
      · exact .inr (.inr ⟨k5, h5 k5⟩)
      · exact .inl ⟨h7, k3, k5, h4⟩
  | lett _ _ ih => exact ih
  | const _ _ _ _ ih => exact ih
  | @app n N ls f a f' n' hd hk ih =>
    intro m ver es _ hs
    rw [sz_app] at hs
    rw [Lh_app A X env n0 e0 m ver es (by omega) 0 [] f' a, ih m (ver + 1) (es ++ [a]) (fun h => absurd h hk) (by simp; omega), rebuild_snoc]
  | beta _ _ _ _ ih => exact ih
theorem heP_ok (hE : okDs env) {n : Nat} {t : Te} {n' : Nat} {e : Int} (h : He env n t n' e) : t.ok → n ≤ 1000000 → ∀ (ver : Nat) (es : List Te), es.length + sz t + 600 * n ≤ 1073741823 →
    ∃ x : Te, Lh A X env n0 e0 n 0 ver es t = some (.ret (.agg x.cs), A ++ (.box [.sl (De.css env), .int .i64 n', .int .i64 e] :: X)) := by
  have fin : ∀ (m e : Int) (ver : Nat) (es : List Te) (x : Te), e ≠ 0 → es.length ≤ 1073741824 → ∃ y : Te, Lh A X env n0 e0 m e ver es x = some (.ret (.agg y.cs), A ++ (.box [.sl (De.css env), .int .i64 m, .int .i64 e] :: X)) := by
    intro m e ver es x he hes
    rcases x with ⟨k, N, ls, ks⟩
    exact ⟨_, Lh_fin A X env n0 e0 m e ver es hes k N ls ks (.inl he)⟩
  induction h with
  | @let0 N ls s v b =>
    intro ht hn ver es hs
    have := Lh_let0 A X env n0 e0 ver es N ls [s, v, b]
    rw [Int.natCast_zero, this]
    exact fin 0 40 ver es _ (by decide) (by omega)
  | @let2 n N ls s v b r e ho he =>
    intro ht hn ver es hs
    rw [Lh_let A X env n0 e0 n hn ver es N ls s v b (ht.all b (by simp)) (ht.all v (by simp)) r e ho]
    exact fin n e ver es r he (by omega)
  | @letr n N ls s v b r n' e ho hd ih =>
    intro ht hn ver es hs
    have hb := ht.all b (by simp)
    have hv := ht.all v (by simp)
    have hz := OpenS_sz ho
    rw [Lh_let A X env n0 e0 n hn ver es N ls s v b hb hv r 0 ho]
    exact ih (OpenS_ok' ho hb hv) (by omega) ver es (by omega)
  | @const0 N ls ks d hN hu =>
    intro ht hn ver es hs
    have := Lh_const0 A X env n0 e0 ver es N hN ls ks d hu
    rw [Int.natCast_zero, this]
    exact fin 0 40 ver es _ (by decide) (by omega)
  | @const2 n N ls ks d r e hN hu hs he =>
    intro ht hn ver es hz
    rw [Lh_const A X env n0 e0 hE n hn ver es N hN ls ht.all2 ht.len2 ks d hu r e hs]
    exact fin n e ver es r he (by omega)
  | @constr n N ls ks d r n' e hN hu hs hd ih =>
    intro ht hn ver es hz
    have hz := TSubS_sz hs
    rw [Lh_const A X env n0 e0 hE n hn ver es N hN ls ht.all2 ht.len2 ks d hu r 0 hs]
    exact ih (const_ok hE ht hu hs) (by omega) ver es (by omega)
  | @appf n N ls f a n' e hd ih =>
    intro ht hn ver es hs
    rw [sz_app] at hs
    rw [Lh_app A X env n0 e0 n ver es (by omega) N ls f a]
    exact ih (ht.all f (by simp)) hn (ver + 1) (es ++ [a]) (by simp; omega)
  | @beta0 n N ls f a N2 ls2 s b hd =>
    intro ht hn ver es hs
    rw [sz_app] at hs
    obtain ⟨w, h1, h2⟩ := hdP_ok A X env n0 e0 hE hd (ht.all f (by simp)) hn (ver + 1) (es ++ [a]) (by simp; omega)
    rw [Lh_app A X env n0 e0 n ver es (by omega) N ls f a, h2, Int.natCast_zero, Lh_lam0 A X env n0 e0 w es (by omega) a N2 ls2 [s, b]]
    exact fin 0 40 _ es _ (by decide) (by omega)
  | @beta2 n N ls f a N2 ls2 s b m r e hd ho he =>
    intro ht hn ver es hs
    rw [sz_app] at hs
    have hf := ht.all f (by simp)
    have ha := ht.all a (by simp)
    have hl := hd.ok hE hf
    have hle := hd.le
    have hb := hl.all b (by simp)
    obtain ⟨w, h1, h2⟩ := hdP_ok A X env n0 e0 hE hd hf hn (ver + 1) (es ++ [a]) (by simp; omega)
    rw [Lh_app A X env n0 e0 n ver es (by omega) N ls f a, h2, Lh_lam A X env n0 e0 m (by omega) w es (by omega) a ha N2 ls2 s b hb r e ho]
    exact fin m e _ es r he (by omega)
  | @betar n N ls f a N2 ls2 s b m r n' e hd ho hd2 ih2 =>
    intro ht hn ver es hs
    rw [sz_app] at hs
    have hf := ht.all f (by simp)
    have ha := ht.all a (by simp)
    have hl := hd.ok hE hf
    have hle := hd.le
    have hb := hl.all b (by simp)
    have hz := OpenS_sz ho
    obtain ⟨w, h1, h2⟩ := hdP_ok A X env n0 e0 hE hd hf hn (ver + 1) (es ++ [a]) (by simp; omega)
    rw [Lh_app A X env n0 e0 n ver es (by omega) N ls f a, h2, Lh_lam A X env n0 e0 m (by omega) w es (by omega) a ha N2 ls2 s b hb r 0 ho]
    exact ih2 (OpenS_ok' ho hb ha) (by omega) (w + 1) es (by omega)
theorem HeadP_ok (hE : okDs env) {n : Nat} {t t' : Te} {n' : Nat} (h : Hd env n t t' n') (ht : t.ok) (hs : sz t + 600 * n ≤ 500000000) :
    F reduce_Machine_Head [.ptr A.length 0, .agg t.cs] (A ++ (.box [.sl (De.css env), .int .i64 n, .int .i64 0] :: X)) = some (.ret (.agg t'.cs), A ++ (.box [.sl (De.css env), .int .i64 n', .int .i64 0] :: X)) := by
  obtain ⟨w, _, h2⟩ := hdP_ok A X env n 0 hE h ht (by omega) 0 [] (by simp; omega)
  have := h.sz
  rw [HeadP_L, h2, nfP_ok A X env n 0 h n' w [] (fun _ => rfl) (by simp; omega), rebuild_nil]
theorem HeadP_er (hE : okDs env) {n : Nat} {t : Te} {n' : Nat} {e : Int} (h : He env n t n' e) (ht : t.ok) (hs : sz t + 600 * n ≤ 500000000) :
    ∃ x : Te, F reduce_Machine_Head [.ptr A.length 0, .agg t.cs] (A ++ (.box [.sl (De.css env), .int .i64 n, .int .i64 0] :: X)) = some (.ret (.agg x.cs), A ++ (.box [.sl (De.css env), .int .i64 n', .int .i64 e] :: X)) := by
  rw [HeadP_L]
  exact heP_ok A X env n 0 hE h ht (by omega) 0 [] (by simp; omega)
mutual
def wfT : Te → Bool
  | .mk k n ls ks => decide ((ks.length : Int) = kids13 k) && (decide (k ≠ 3) || decide (0 ≤ n)) && wfTs ks
def wfTs : List Te → Bool
  | [] => true
  | x :: r => wfT x && wfTs r
end
mutual
theorem right_wf {p m : Int} : ∀ {t : Te} {v d : Int}, rightT p m t v d = true → wfT t = true
  | .mk k n ls ks, v, d, h => by
    have hi := rightT_inv h
    obtain ⟨h1, h2, h3, h4, h5⟩ := hi
    rw [wfT]
    have := right_wfs h5
    simp only [this, Bool.and_true, Bool.and_eq_true, decide_eq_true_eq, Bool.or_eq_true]
    refine ⟨h2, ?_⟩
    by_cases k3 : k = 3
    · right
      subst k3
      unfold namedB at h4
      simp at h4
      exact h4.1.1
    · exact .inl k3
theorem right_wfs {p m k : Int} : ∀ {ks : List Te} {i v d : Int}, rightTs p m k ks i v d = true → wfTs ks = true
  | [], _, _, _, _ => rfl
  | x :: r, i, v, d, h => by
    rw [rightTs] at h
    simp at h
    rw [wfTs, right_wf h.1, right_wfs h.2]; rfl
end
theorem shape_wf {t : Te} (h : ShapeB t = true) : wfT t = true := right_wf (shape_inv h)
mutual
theorem sub_wf (ps ms : List Lv) : ∀ t : Te, wfT (subT ps ms t) = wfT t
  | .mk k n ls ks => by
    rw [subT, wfT, wfT, subs_wf ps ms ks, subTs_eq, List.length_map]
theorem subs_wf (ps ms : List Lv) : ∀ ks : List Te, wfTs (subTs ps ms ks) = wfTs ks
  | [] => rfl
  | x :: r => by rw [subTs, wfTs, wfTs, sub_wf ps ms x, subs_wf ps ms r]
end
theorem TSubS_wf {t r : Te} {ps ms : List Lv} (h : TSubS t ps ms = (r, 0)) : wfT r = true := by
  obtain ⟨h1, rfl, _⟩ := TSubS_in h
  rw [sub_wf]; exact shape_wf h1
theorem OpenS_wf {b v r : Te} (h : OpenS b v = (r, 0)) : wfT r = true := shape_wf (OpenS_in h).2.2.2
theorem two_kids {ks : List Te} (h : (ks.length : Int) = 2) : ∃ a b, ks = [a, b] := by
  match ks, h with
  | [a, b], _ => exact ⟨a, b, rfl⟩
  | [], h => simp at h
  | [_], h => simp at h
  | _ :: _ :: _ :: _, h => simp at h; omega
theorem three_kids {ks : List Te} (h : (ks.length : Int) = 3) : ∃ a b c, ks = [a, b, c] := by
  match ks, h with
  | [a, b, c], _ => exact ⟨a, b, c, rfl⟩
  | [], h => simp at h
  | [_], h => simp at h
  | [_, _], h => simp at h
  | _ :: _ :: _ :: _ :: _, h => simp at h; omega
theorem head_total (env : List De) : ∀ (n : Nat) (t : Te), wfT t = true → (∃ t' n', Hd env n t t' n' ∧ wfT t' = true) ∨ ∃ n' e, He env n t n' e := by
  intro n
  induction n using Nat.strongRecOn with
  | ind n ihn =>
  intro t
  induction t using Te.ind with
  | h k N ls ks iht =>
  intro hw
  have hw0 := hw
  rw [wfT] at hw
  simp only [Bool.and_eq_true, decide_eq_true_eq, Bool.or_eq_true] at hw
  obtain ⟨⟨hk, hN⟩, hks⟩ := hw
  by_cases k7 : k = 7
  · subst k7
    obtain ⟨s, v, b, rfl⟩ := three_kids hk
    rcases n with _ | n
    · exact .inr ⟨0, 40, .let0⟩
    rcases ho : OpenS b v with ⟨r, e⟩
    by_cases he : e = 0
    · subst he
      rcases ihn n (by omega) r (OpenS_wf ho) with ⟨t', n', h1, h2⟩ | ⟨n', e, h1⟩
      · exact .inl ⟨t', n', .lett ho h1, h2⟩
      · exact .inr ⟨n', e, .letr ho h1⟩
    · exact .inr ⟨n, e, .let2 ho he⟩
  by_cases k4 : k = 4
  · subst k4
    obtain ⟨f, a, rfl⟩ := two_kids hk
    simp only [wfTs, Bool.and_eq_true] at hks
    rcases iht f (by simp) hks.1 with ⟨f', m, h1, h2⟩ | ⟨n', e, h1⟩
    · rcases f' with ⟨k2, N2, ls2, ks2⟩
      by_cases k5 : k2 = 5
      · subst k5
        have h3 := h2
        rw [wfT] at h3
        simp only [Bool.and_eq_true, decide_eq_true_eq] at h3
        obtain ⟨s, b, rfl⟩ := two_kids h3.1.1
        rcases m with _ | m
        · exact .inr ⟨0, 40, .beta0 h1⟩
        have hle := h1.le
        rcases ho : OpenS b a with ⟨r, e⟩
        by_cases he : e = 0
        · subst he
          rcases ihn m (by omega) r (OpenS_wf ho) with ⟨t', n', h4, h5⟩ | ⟨n', e, h4⟩
          · exact .inl ⟨t', n', .beta h1 ho h4, h5⟩
          · exact .inr ⟨n', e, .betar h1 ho h4⟩
        · exact .inr ⟨m, e, .beta2 h1 ho he⟩
      · refine .inl ⟨_, m, .app h1 k5, ?_⟩
        rw [wfT]
        simp [wfTs, hks.2.1, h2, kids13]
    · exact .inr ⟨n', e, .appf h1⟩
  by_cases k3 : k = 3
  · subst k3
    have hN : 0 ≤ N := by simpa using hN
    cases hu : unfD env N ls with
    | none => exact .inl ⟨_, n, .stuck (by decide) (by decide) (fun _ => ⟨hN, hu⟩), hw0⟩
    | some d =>
      rcases n with _ | n
      · exact .inr ⟨0, 40, .const0 hN hu⟩
      rcases hs : TSubS d.value ls [] with ⟨r, e⟩
      by_cases he : e = 0
      · subst he
        rcases ihn n (by omega) r (TSubS_wf hs) with ⟨t', n', h1, h2⟩ | ⟨n', e, h1⟩
        · exact .inl ⟨t', n', .const hN hu hs h1, h2⟩
        · exact .inr ⟨n', e, .constr hN hu hs h1⟩
      · exact .inr ⟨n, e, .const2 hN hu hs he⟩
  · exact .inl ⟨_, n, .stuck k4 k7 (fun h => absurd h k3), hw0⟩

/-! ### Reduce, both sides -/
def resN (r : Te × Int × Int) : AV := .tup [.agg r.1.cs, .int .i64 r.2.1, .int .i64 r.2.2]
/-- What Reduce tells. -/
inductive RedS (env : List De) (t : Te) (f : Int) : Te × Int × Int → Prop
  | arg : RightD env = false ∨ ShapeB t = false ∨ f < 0 ∨ 5000 < f → RedS env t f (zeroT, 0, 1)
  | er {n n' : Nat} {e : Int} : RightD env = true → ShapeB t = true → f = n → n ≤ 5000 → He env n t n' e → RedS env t f (zeroT, 0, e)
  | long {n n' : Nat} {t' : Te} : RightD env = true → ShapeB t = true → f = n → n ≤ 5000 → Hd env n t t' n' → ShapeB t' = false → RedS env t f (zeroT, 0, 2)
  | ok {n n' : Nat} {t' : Te} : RightD env = true → ShapeB t = true → f = n → n ≤ 5000 → Hd env n t t' n' → ShapeB t' = true → RedS env t f (t', n', 0)
theorem red_total (env : List De) (t : Te) (f : Int) : ∃ r, RedS env t f r := by
  by_cases h1 : RightD env = true
  · by_cases h2 : ShapeB t = true
    · by_cases h3 : f < 0
      · exact ⟨_, .arg (.inr (.inr (.inl h3)))⟩
      by_cases h4 : 5000 < f
      · exact ⟨_, .arg (.inr (.inr (.inr h4)))⟩
      obtain ⟨n, rfl⟩ := Int.eq_ofNat_of_zero_le (show 0 ≤ f by omega)
      rcases head_total env n t (shape_wf h2) with ⟨t', n', h, _⟩ | ⟨n', e, h⟩
      · by_cases h5 : ShapeB t' = true
        · exact ⟨_, .ok h1 h2 rfl (by omega) h h5⟩
        · exact ⟨_, .long h1 h2 rfl (by omega) h (by simpa using h5)⟩
      · exact ⟨_, .er h1 h2 rfl (by omega) h⟩
    · exact ⟨_, .arg (.inr (.inl (by simpa using h2)))⟩
  · exact ⟨_, .arg (.inl (by simpa using h1))⟩
theorem ShapeP_ok (t : Te) (hl : t.ok) (H : List AO) : F reduce_Shape [.agg t.cs] H = some (.ret (.bool (ShapeB t)), H) := by
  have h1 := fun H => RightTP_ok t hl 1000 5 10 H
  simp only [RightT_shape] at h1
  rcases t with ⟨k, n, ls, ks⟩
  simp only [Te.cs] at h1
  rw [f_reduce_Shape]
  simp only [↓reduceIte, go_sem, Te.cs, h1]

theorem ReduceP_ok_key (env : List De) (hE : okDs env) (t : Te) (ht : t.ok) (H : List AO) (g1 : RightD env = true) (g2 : ShapeB t = true) (n : Nat) (hn : n ≤ 5000) (n' : Nat) (e : Int) (x : Te) (hx : e = 0 → x.ok)
    (hd : F reduce_Machine_Head [.ptr H.length 0, .agg t.cs] (H ++ [.box [.sl (De.css env), .int .i64 n, .int .i64 0]]) = some (.ret (.agg x.cs), H ++ [.box [.sl (De.css env), .int .i64 n', .int .i64 e]])) :
    F reduce_Reduce [.sl (De.css env), .agg t.cs, .int .i64 n] H = some (.ret (resN (if e ≠ 0 then (zeroT, 0, e) else if ShapeB x = true then (x, (n' : Int), 0) else (zeroT, 0, 2))), H) := by
  have hR := fun H => RightDP_ok env hE H
  have hS := fun H => ShapeP_ok t ht H
  rw [g1] at hR
  rw [g2] at hS
  rcases t with ⟨k, N, ls, ks⟩
  rcases x with ⟨k2, N2, ls2, ks2⟩
  simp only [Te.cs] at hS hd
  have hn1 : ¬ (n : Int) < 0 := by omega
  have hn2 : ¬ (5000 : Int) < (n : Int) := by omega
  have hf := FailP_ok env n' 2 H []
  rw [f_reduce_Reduce]
  by_cases he : e = 0
  · subst he
    have hS2 := fun H => ShapeP_ok (.mk k2 N2 ls2 ks2) (hx rfl) H
    simp only [Te.cs] at hS2
    cases h2 : ShapeB (.mk k2 N2 ls2 ks2) <;> simp only [h2] at hS2 <;>
      simp only [↓reduceIte, go_sem, Te.cs, Te.css, Lv.css, hR, hS, hn1, hn2, hd, hS2, hf, h2, resN, zeroT, ne_eq, not_true_eq_false, Bool.false_eq_true]
  · simp only [↓reduceIte, go_sem, Te.cs, Te.css, Lv.css, hR, hS, hn1, hn2, hd, he, resN, zeroT, ne_eq, not_false_eq_true]
theorem ReduceP_ok (env : List De) (hE : okDs env) (t : Te) (ht : t.ok) (f : Int) (r : Te × Int × Int) (h : RedS env t f r) (H : List AO) : F reduce_Reduce [.sl (De.css env), .agg t.cs, .int .i64 f] H = some (.ret (resN r), H) := by
  cases h with
  | arg hg =>
    have hR := fun H => RightDP_ok env hE H
    have hS := fun H => ShapeP_ok t ht H
    rcases t with ⟨k, N, ls, ks⟩
    simp only [Te.cs] at hS
    rw [f_reduce_Reduce]
    cases g1 : RightD env <;> simp only [g1] at hR
    · simp only [↓reduceIte, go_sem, Te.cs, Te.css, Lv.css, hR, resN, zeroT]
    cases g2 : ShapeB (.mk k N ls ks) <;> simp only [g2] at hS
    · simp only [↓reduceIte, go_sem, Te.cs, Te.css, Lv.css, hR, hS, resN, zeroT]
    by_cases g3 : f < 0
    · simp only [↓reduceIte, go_sem, Te.cs, Te.css, Lv.css, hR, hS, g3, resN, zeroT]
    have g4 : 5000 < f := by
      rcases hg with h | h | h | h
      · rw [g1] at h; cases h
      · rw [g2] at h; cases h
      · exact absurd h g3
      · exact h
    simp only [↓reduceIte, go_sem, Te.cs, Te.css, Lv.css, hR, hS, g3, g4, resN, zeroT]
  | @er n n' e g1 g2 hf hn hd =>
    subst hf
    have hz := shape_sz g2
    obtain ⟨x, hx⟩ := HeadP_er H [] env hE hd ht (by omega)
    have := ReduceP_ok_key env hE t ht H g1 g2 n hn n' e x (fun h => absurd h hd.ne) hx
    rwa [if_pos hd.ne] at this
  | @long n n' t' g1 g2 hf hn hd hs =>
    subst hf
    have hz := shape_sz g2
    have := ReduceP_ok_key env hE t ht H g1 g2 n hn n' 0 t' (fun _ => hd.ok hE ht) (HeadP_ok H [] env hE hd ht (by omega))
    rwa [if_neg (by simp), if_neg (by simp [hs])] at this
  | @ok n n' t' g1 g2 hf hn hd hs =>
    subst hf
    have hz := shape_sz g2
    have := ReduceP_ok_key env hE t ht H g1 g2 n hn n' 0 t' (fun _ => hd.ok hE ht) (HeadP_ok H [] env hE hd ht (by omega))
    rwa [if_neg (by simp), if_pos hs] at this
end Go.Ab
