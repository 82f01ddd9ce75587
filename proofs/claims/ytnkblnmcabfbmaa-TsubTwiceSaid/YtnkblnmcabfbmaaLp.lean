/- What is named in a level, each once: the program's functions. Conditions: none. -/
import Derived.Test.YtnkblnmcabfbmaaLo
import Derived.Test.YtnkblnmcabfbmaaLw
set_option linter.unusedVariables false
set_option linter.unusedSimpArgs false
set_option maxRecDepth 100000
set_option maxHeartbeats 2000000
namespace Go.Ab
open Go.RowKit Go.Proofs

def i64s (L : List Int) : List (List AV) := L.map fun b => [.int .i64 b]
@[go_sem] theorem i64s_len (L : List Int) : (i64s L).length = L.length := by simp [i64s]
@[go_sem] theorem i64s_get (L : List Int) (i : Nat) : (i64s L)[i]? = L[i]?.map fun b => [.int .i64 b] := by simp [i64s]
@[go_sem] theorem i64s_nil : i64s [] = [] := rfl
theorem i64s_app (a b : List Int) : i64s (a ++ b) = i64s a ++ i64s b := by simp [i64s]
theorem i64s_snoc (a : List Int) (n : Int) : i64s a ++ [[.int .i64 n]] = i64s (a ++ [n]) := by simp [i64s]
theorem i64s_lt (n : Nat) (L : List Int) : ∀ a ∈ (i64s L).flatten, Lt n a := by
  intro a ha
  obtain ⟨e, he, h2⟩ := List.mem_flatten.1 ha
  obtain ⟨x, hx, rfl⟩ := List.mem_map.1 he
  simp at h2; subst h2
  exact .int _ _
@[go_sem] theorem lt_i64s (n : Nat) (L : List Int) : (∀ a ∈ (i64s L).flatten, Lt n a) = True := eq_true (i64s_lt n L)
theorem i64s_all (L : List Int) : ∀ e ∈ i64s L, e.length = 1 := by
  intro e he
  obtain ⟨x, hx, rfl⟩ := List.mem_map.1 he
  rfl

/-- Numbers behind others, each once. -/
def onceL : List Int → List Int → List Int
  | out, [] => out
  | out, n :: r => onceL (if out.contains n then out else out ++ [n]) r
theorem onceL_app : ∀ (a b out : List Int), onceL out (a ++ b) = onceL (onceL out a) b
  | [], b, out => rfl
  | n :: a, b, out => by rw [List.cons_append, onceL, onceL, onceL_app a b]
theorem onceL_len : ∀ (a out : List Int), (onceL out a).length ≤ out.length + a.length
  | [], out => by simp [onceL]
  | n :: a, out => by
    rw [onceL]
    have := onceL_len a (if out.contains n then out else out ++ [n])
    split at this <;> simp at * <;> split <;> simp_all <;> omega

theorem findN (es : List Int) (hlen : es.length ≤ 140737488355328) (n : Int) (v : AV) (H : List AO) (hel : v = .sl (i64s es) ∨ ∃ id ver, v = .ol id ver ∧ H[id]? = some (.lst ver 1 (i64s es))) :
    F slices_Contains_int [v, .int .i64 n] H = some (.ret (.bool (es.contains n)), H) := by
  have loop : ∀ (suf pre : List Int), es = pre ++ suf → ∃ r : Int, L_slices_Index_int_0 H H v (.int .i64 n) (.int .i64 es.length) (.int .i64 pre.length) = some (.ret (.int .i64 r), H) ∧ decide (0 ≤ r) = suf.contains n := by
    intro suf
    induction suf with
    | nil =>
      intro pre e
      subst e
      refine ⟨-1, ?_, rfl⟩
      rw [L_slices_Index_int_0, awL_eq]
      simp only [↓reduceIte, go_sem]
    | cons x suf ih =>
      intro pre e
      subst e
      obtain ⟨r, h1, h2⟩ := ih (pre ++ [x]) (by simp)
      simp only [len_app] at h1
      simp at hlen
      by_cases hx : n = x
      · subst hx
        refine ⟨pre.length, ?_, by simp⟩
        rw [L_slices_Index_int_0, awL_eq]
        rcases hel with rfl | ⟨id, ver, rfl, he⟩
        · simp only [↓reduceIte, go_sem]
        · simp only [↓reduceIte, go_sem, he]
      · refine ⟨r, ?_, ?_⟩
        · rw [L_slices_Index_int_0, awL_eq]
          rcases hel with rfl | ⟨id, ver, rfl, he⟩
          · simp only [↓reduceIte, go_sem, hx, nat_wrap (n := pre.length) (by omega), h1]
          · simp only [↓reduceIte, go_sem, he, hx, nat_wrap (n := pre.length) (by omega), h1]
        · rw [h2]; simp [hx]
  obtain ⟨r, h1, h2⟩ := loop es [] rfl
  simp only [List.length_nil, Int.natCast_zero] at h1
  have hi : F slices_Index_int [v, .int .i64 n] H = some (.ret (.int .i64 r), H) := by
    rw [f_slices_Index_int]
    rcases hel with rfl | ⟨id, ver, rfl, he⟩
    · simp only [↓reduceIte, go_sem, h1]
    · simp only [↓reduceIte, go_sem, he, h1]
  rw [f_slices_Contains_int]
  simp only [↓reduceIte, go_sem, hi, ← h2]


def onceD (n : Nat) (p : Nat × List Int) : List AO := [.lst p.1 1 (i64s p.2), .box [.ol n p.1]]
def onceS (p : Nat × List Int) (n : Int) : Option ((Nat × List Int) ⊕ Empty) := if p.2.length < 1073741824 then (if p.2.contains n then some (.inl p) else some (.inl (p.1 + 1, p.2 ++ [n]))) else none
def noE {β : Type} (e : Empty) : β := e.elim
theorem once_ys (H : List AO) : Ys (.yd (H.length + 2 + 1)) (H.length + 2 + 2) encI (fun p => H ++ (onceD H.length p ++ [.dfr, .slp .ready 15 [(2, .ptr (H.length + 1) 0)] [5] s_lsub_once_0 y_lsub_once_0])) (fun e : Empty => H ++ (noE e ++ [.dfr, .slp (.done (noE e)) 15 [(2, .ptr (H.length + 1) 0)] [5] s_lsub_once_0 y_lsub_once_0])) onceS := by
  refine ys_of H 2 encI (onceD H.length) noE noE onceS 15 [(2, .ptr (H.length + 1) 0)] [5] s_lsub_once_0 y_lsub_once_0 o_s_lsub_once_0 o_y_lsub_once_0 (fun _ => rfl) ?_ ?_ ?_ ?_
  · rintro (p | e)
    · rfl
    · exact e.elim
  · rintro s (p | e) i o ho
    · match i, ho with
      | 0, ho => simp [hp_inl, onceD] at ho; subst ho; exact .inr fun a ha => i64s_lt _ _ a ha
      | 1, ho => simp [hp_inl, onceD] at ho; subst ho; exact .inr fun a ha => by simp at ha; subst ha; exact .ol (by omega)
      | j + 2, ho => simp [hp_inl, onceD] at ho
    · exact e.elim
  · intro p hp; simp at hp; subst hp; exact .ptr (by omega)
  · rintro ⟨ver, es⟩ n X r hst
    refine ⟨[], ?_⟩
    unfold onceS at hst
    split at hst
    · rename_i h2
      dsimp only at h2
      have hc := findN es (by omega) n (.ol H.length ver) (H ++ ([AO.lst ver 1 (i64s es), .box [.ol H.length ver]] ++ (.dfr :: .slp .busy 15 [(2, .ptr (H.length + 1) 0)] [5] s_lsub_once_0 y_lsub_once_0 :: X))) (.inr ⟨_, _, rfl, by rw [app_get0]; rfl⟩)
      simp only [List.cons_append, List.nil_append] at hc
      by_cases h1 : es.contains n = true
      · rw [if_pos h1] at hst
        cases hst
        simp only [↓reduceIte, go_sem, onceD, hc, h1, lstO, isL]
      · rw [if_neg h1] at hst
        cases hst
        simp only [Bool.not_eq_true] at h1
        simp only [↓reduceIte, go_sem, onceD, hc, h1, lstO, isL, i64s_snoc, show es.length + (0 + 1) ≤ 1073741824 by omega]
    · cases hst
theorem once_fold : ∀ (xs : List Int) (ver : Nat) (es : List Int), es.length + xs.length ≤ 1073741824 → ∃ v, fold onceS xs (ver, es) = some (.inl (v, onceL es xs))
  | [], ver, es, _ => ⟨ver, rfl⟩
  | n :: r, ver, es, h => by
    simp at h
    rw [fold, onceL]
    unfold onceS
    rw [if_pos (show es.length < 1073741824 by omega)]
    by_cases h1 : es.contains n = true
    · rw [if_pos h1, if_pos h1]; exact once_fold r ver es (by omega)
    · rw [if_neg h1, if_neg h1]; exact once_fold r (ver + 1) (es ++ [n]) (by simp; omega)
theorem once_ok (k : FuncId) (c : AV) (cap : List AV) (xs : List Int) (hs : IsSeq (.fn (.func k) [] (c :: cap)) encI xs) (hx : xs.length ≤ 1073741824) (H : List AO) :
    F lsub_once [.fn (.func k) [] (c :: cap)] H = some (.ret (.sl (i64s (onceL [] xs))), H) := by
  obtain ⟨v, hv⟩ := once_fold xs 0 [] (by simpa using hx)
  have hr := hs _ _ _ _ _ _ _ (once_ys H) (0, []) [] _ hv
  have he := rf_end (H := H) (DR := onceD H.length (v, onceL [] xs)) (k := 2) rfl (st := .ready) (nn := 15) (t := [(2, .ptr (H.length + 1) 0)]) (ps := [5]) (asg := s_lsub_once_0) (body := y_lsub_once_0)
  simp only [hp_inl, onceD, cfl_f1, List.cons_append, List.nil_append, List.append_nil, Nat.add_assoc, Nat.reduceAdd, i64s_nil] at hr he
  rw [f_lsub_once]
  simp only [↓reduceIte, go_sem, hr, he, List.mem_cons, List.not_mem_nil, or_false, forall_eq, List.nodup_cons, List.nodup_nil, not_false_eq_true, and_self]
theorem Params_ok (l : Lv) (hl : l.ok) (hx : (namesL 5 l).length ≤ 1073741824) (H : List AO) : F lsub_Params [.agg l.cs] H = some (.ret (.sl (i64s (onceL [] (namesL 5 l)))), H) := by
  have := once_ok lsub_named_1 (.fp l.cs) [.fp [.int .i64 5]] _ (named_seq l hl 5) hx H
  rw [f_lsub_Params]
  simp only [↓reduceIte, go_sem, named_ok, namedV, this]
theorem Metas_ok (l : Lv) (hl : l.ok) (hx : (namesL 6 l).length ≤ 1073741824) (H : List AO) : F lsub_Metas [.agg l.cs] H = some (.ret (.sl (i64s (onceL [] (namesL 6 l)))), H) := by
  have := once_ok lsub_named_1 (.fp l.cs) [.fp [.int .i64 6]] _ (named_seq l hl 6) hx H
  rw [f_lsub_Metas]
  simp only [↓reduceIte, go_sem, named_ok, namedV, this]

/-! ### The document's functions -/
/-- A list that is built up: none as yet, or one of one's own. -/
inductive Acc (H : List AO) : AV → List Int → List AO → Prop
  | ze : Acc H .ze [] H
  | ol (ver : Nat) (es : List Int) : Acc H (.ol H.length ver) es (H ++ [.lst ver 1 (i64s es)])

theorem ref05_leaf (H : List AO) (k n : Int) (ks : List Lv) {v : AV} {es : List Int} {H1 : List AO} (ha : Acc H v es H1) (hb : es.length < 1073741824) :
    ∃ v' H2, F ref05_named [.agg (Lv.mk k n ks).cs, .int .i64 k, v] H1 = some (.ret v', H2) ∧ Acc H v' (if es.contains n then es else es ++ [n]) H2 := by
  have loop : ∀ (ver : Nat) (suf pre : List Int), es = pre ++ suf → v = .ol H.length ver → H1 = H ++ [.lst ver 1 (i64s es)] → pre.contains n = false →
      ∃ v' H2, L_ref05_named_0 H1 v (.int .i64 pre.length) [.int .i64 k, .int .i64 n, .sl (Lv.css ks)] = some (.ret v', H2) ∧ Acc H v' (if es.contains n then es else es ++ [n]) H2 := by
    intro ver suf
    induction suf with
    | nil =>
      intro pre e hv hH hp
      subst e
      subst hv
      subst hH
      rw [List.append_nil] at *
      rw [hp]
      refine ⟨.ol H.length (ver + 1), H ++ [.lst (ver + 1) 1 (i64s (pre ++ [n]))], ?_, .ol _ _⟩
      rw [L_ref05_named_0, awL_eq]
      simp only [↓reduceIte, go_sem, i64s_snoc, show pre.length + (0 + 1) ≤ 1073741824 by omega]
    | cons x suf ih =>
      intro pre e hv hH hp
      by_cases hx : n = x
      · subst hx
        have : es.contains n = true := by subst e; simp
        rw [if_pos this]
        refine ⟨v, H1, ?_, by subst hv hH; exact .ol _ _⟩
        subst e hv hH
        rw [L_ref05_named_0, awL_eq]
        simp only [↓reduceIte, go_sem]
      · obtain ⟨v', H2, h1, h2⟩ := ih (pre ++ [x]) (by simp [e]) hv hH (by simp at hp ⊢; exact ⟨hp, hx⟩)
        refine ⟨v', H2, ?_, h2⟩
        simp only [len_app] at h1
        subst hv hH
        have hl : pre.length < 1073741824 := by rw [e] at hb; simp at hb; omega
        subst e
        rw [L_ref05_named_0, awL_eq]
        simp only [↓reduceIte, go_sem, Ne.symm hx, show ¬ x = n from Ne.symm hx, nat_wrap (n := pre.length) (by omega), h1]
  cases ha with
  | ze =>
    refine ⟨.ol H.length 0, H ++ [.lst 0 1 (i64s [n])], ?_, .ol _ _⟩
    rw [f_ref05_named]
    simp only [↓reduceIte, go_sem, Lv.cs]
    rw [L_ref05_named_0, awL_eq]
    simp only [↓reduceIte, go_sem, Lv.cs]
    rfl
  | ol ver =>
    obtain ⟨v', H2, h1, h2⟩ := loop ver es [] rfl rfl rfl rfl
    refine ⟨v', H2, ?_, h2⟩
    simp only [List.length_nil, Int.natCast_zero] at h1
    rw [f_ref05_named]
    simp only [↓reduceIte, go_sem, Lv.cs, h1]

theorem onceL_one (es : List Int) (n : Int) : (if es.contains n then es else es ++ [n]) = onceL es [n] := rfl
theorem ref05_named_ok (l : Lv) : l.ok → ∀ (kind : Int) (H : List AO) {v : AV} {es : List Int} {H1 : List AO}, Acc H v es H1 → es.length + (namesL kind l).length ≤ 1073741824 →
    ∃ v' H2, F ref05_named [.agg l.cs, .int .i64 kind, v] H1 = some (.ret v', H2) ∧ Acc H v' (onceL es (namesL kind l)) H2 := by
  induction l using Lv.ind with
  | h k n ks ih =>
  intro hl kind H v es H1 ha hb
  by_cases hk : k = kind
  · subst hk
    have e : namesL k (.mk k n ks) = [n] := by rw [namesL, if_pos rfl]
    rw [e] at hb ⊢
    rw [← onceL_one]
    exact ref05_leaf H k n ks ha (by simp at hb; omega)
  have hlen := hl.len
  rw [show namesL kind (.mk k n ks) = namesLs kind ks by rw [namesL, if_neg hk]] at hb ⊢
  have loop : ∀ (suf pre : List Lv) {v : AV} {es : List Int} {H1 : List AO}, ks = pre ++ suf → Acc H v es H1 → es.length + (namesLs kind suf).length ≤ 1073741824 →
      ∃ v' H2, L_ref05_named_1 H1 (.int .i64 kind) v (.int .i64 pre.length) [.int .i64 k, .int .i64 n, .sl (Lv.css ks)] = some (.ret v', H2) ∧ Acc H v' (onceL es (namesLs kind suf)) H2 := by
    intro suf
    induction suf with
    | nil =>
      intro pre v es H1 e ha2 hb2
      subst e
      refine ⟨v, H1, ?_, by rw [namesLs, onceL]; exact ha2⟩
      rw [L_ref05_named_1, awL_eq]
      simp only [↓reduceIte, go_sem]
    | cons x suf ih2 =>
      intro pre v es H1 e ha2 hb2
      subst e
      rw [namesLs, List.length_append] at hb2
      simp at hlen
      obtain ⟨v1, H2, h1, h2⟩ := ih x (by simp) (hl.all x (by simp)) kind H ha2 (by omega)
      have hle := onceL_len (namesL kind x) es
      obtain ⟨v2, H3, h3, h4⟩ := ih2 (pre ++ [x]) (by simp) h2 (by omega)
      simp only [len_app] at h3
      refine ⟨v2, H3, ?_, by rw [namesLs, onceL_app]; exact h4⟩
      rw [L_ref05_named_1, awL_eq]
      simp only [↓reduceIte, go_sem, h1, nat_wrap (n := pre.length) (by omega), h3]
  obtain ⟨v', H2, h1, h2⟩ := loop ks [] rfl ha hb
  simp only [List.length_nil, Int.natCast_zero] at h1
  refine ⟨v', H2, ?_, h2⟩
  rw [f_ref05_named]
  simp only [↓reduceIte, go_sem, Lv.cs, hk, h1]
theorem Acc.frz {H : List AO} {v : AV} {es : List Int} {H1 : List AO} (h : Acc H v es H1) : fin1F H (.ret (frz1 H.length v H1).1) (frz1 H.length v H1).2 = some (.ret (.sl (i64s es)), H) := by
  cases h with
  | ze => simp only [↓reduceIte, go_sem]
  | ol ver => simp only [↓reduceIte, go_sem]
theorem Params05_ok (l : Lv) (hl : l.ok) (hx : (namesL 5 l).length ≤ 1073741824) (H : List AO) : F ref05_Params [.agg l.cs] H = some (.ret (.sl (i64s (onceL [] (namesL 5 l)))), H) := by
  obtain ⟨v, H2, h1, h2⟩ := ref05_named_ok l hl 5 H (Acc.ze (H := H)) (by simpa using hx)
  rw [f_ref05_Params]
  simp only [↓reduceIte, go_sem, h1]
  generalize onceL [] (namesL 5 l) = es at h2 ⊢
  cases h2 with
  | ze => simp only [↓reduceIte, go_sem]
  | ol ver => simp only [↓reduceIte, go_sem]
theorem Metas05_ok (l : Lv) (hl : l.ok) (hx : (namesL 6 l).length ≤ 1073741824) (H : List AO) : F ref05_Metas [.agg l.cs] H = some (.ret (.sl (i64s (onceL [] (namesL 6 l)))), H) := by
  obtain ⟨v, H2, h1, h2⟩ := ref05_named_ok l hl 6 H (Acc.ze (H := H)) (by simpa using hx)
  rw [f_ref05_Metas]
  simp only [↓reduceIte, go_sem, h1]
  generalize onceL [] (namesL 6 l) = es at h2 ⊢
  cases h2 with
  | ze => simp only [↓reduceIte, go_sem]
  | ol ver => simp only [↓reduceIte, go_sem]
end Go.Ab
