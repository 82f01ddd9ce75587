/- Layer 15: the statement TsubTwice. Conditions: none. -/
import Derived.Test.YtnkblnmcabfbmaaSf
set_option linter.unusedVariables false
set_option linter.unusedSimpArgs false
set_option maxRecDepth 100000
set_option maxHeartbeats 2000000
namespace Go.Ab
open Go.RowKit Go.Proofs

theorem rightLs_all {a : List Lv} (h : rightLs a = true) : ∀ l ∈ a, RightB l 5 10 = true := fun l hl => by
  unfold rightLs at h
  exact List.all_eq_true.1 h l hl
theorem twice_c {a b : List Lv} (ha : rightA a) (hb : rightA b) (hall : ∀ l ∈ a, (SubS l b []).2 = 0) : rightA (a.map fun l => (SubS l b []).1) ∧ (a.map fun l => (SubS l b []).1) = a.map (subL b []) := by
  refine ⟨⟨by rw [List.length_map]; exact ha.1, ?_, ?_⟩, ?_⟩
  · intro x hx
    obtain ⟨l, hl, rfl⟩ := List.mem_map.1 hx
    exact SubS_ok' (ha.2.1 l hl) hb.2.1 (by intro x hx; cases hx)
  · unfold rightLs
    rw [List.all_eq_true]
    intro x hx
    obtain ⟨l, hl, rfl⟩ := List.mem_map.1 hx
    have := SubS_zero (hall l hl)
    rw [this.1]; exact this.2
  · exact List.map_congr_left fun l hl => (SubS_zero (hall l hl)).1
theorem twice_fin (t : Te) (ht : t.ok) (st : ShapeB t = true) (a b : List Lv) (ha : rightA a) (hb : rightA b) (hab : b.length ≤ a.length) (hall : ∀ l ∈ a, (SubS l b []).2 = 0) (H : List AO) (ver n : Nat) (hn : ¬ (n : Int) < 3) :
    L_law15_TsubTwice_0 H (H ++ [.lst ver 3 (Lv.css (a.map fun l => (SubS l b []).1))]) (.bool true) (.sl (Lv.css a)) (.sl (Lv.css b)) (.ol H.length ver) (.int .i64 n) t.cs = some (.ret (.bool true), H) := by
  obtain ⟨hc, hce⟩ := twice_c ha hb hall
  generalize hcc : (a.map fun l => (SubS l b []).1) = c at *
  have o0 : okLs [] := by intro x hx; cases hx
  have a1 := ha.1
  have b1 := hb.1
  have c1 := hc.1
  have hT1 := fun H => TSub_ok t a [] ht ha.2.1 o0 (by omega) (by simp) H
  have hT3 := fun H => TSub_ok t c [] ht hc.2.1 o0 (by omega) (by simp) H
  rcases h1 : TSubS t a [] with ⟨x, e⟩
  rcases h3 : TSubS t c [] with ⟨z, g⟩
  have hx : x.ok := by have := TSubS_ok ht ha.2.1 o0; rw [h1] at this; exact this
  have hT2 := fun H => TSub_ok x b [] hx hb.2.1 o0 (by omega) (by simp) H
  rcases h2 : TSubS x b [] with ⟨y, f⟩
  rw [h1] at hT1
  rw [h2] at hT2
  rw [h3] at hT3
  have k1 := TSubS_two st ha.1 (by simp) ha.2.2 rfl h1
  have k3 := TSubS_two st hc.1 (by simp) hc.2.2 rfl h3
  have hy : y.ok := by have := TSubS_ok hx hb.2.1 o0; rw [h2] at this; exact this
  have hs := fun H => same13_ok y hy y H
  rw [teEq_refl] at hs
  rw [L_law15_TsubTwice_0, awL_eq]
  rcases k1 with ⟨rfl, hxe, o1⟩ | rfl
  · have sx : ShapeB x = true := by rw [hxe]; exact shape_sub st o1
    have k2 := TSubS_two sx hb.1 (by simp) hb.2.2 rfl h2
    rcases k2 with ⟨rfl, hye, o2⟩ | rfl
    · rcases k3 with ⟨rfl, hze, o3⟩ | rfl
      · have : z = y := by
          rw [hze, hye, hxe, hce]
          refine (subT_twice a b hab t o1 ?_ ?_).symm
          · rw [← hxe]; exact o2
          · rw [← hce]; exact o3
        subst this
        rcases t with ⟨tk, tn, tls, tks⟩
        rcases x with ⟨xk, xn, xls, xks⟩
        rcases z with ⟨zk, zn, zls, zks⟩
        simp only [resT, Te.cs, Lv.css] at hT1 hT2 hT3 hs
        simp only [↓reduceIte, go_sem, Te.cs, hn, hT1, hT2, hT3, hs]
      · rcases t with ⟨tk, tn, tls, tks⟩
        rcases x with ⟨xk, xn, xls, xks⟩
        rcases y with ⟨yk, yn, yls, yks⟩
        rcases z with ⟨zk, zn, zls, zks⟩
        simp only [resT, Te.cs, Lv.css] at hT1 hT2 hT3
        simp only [↓reduceIte, go_sem, Te.cs, hn, hT1, hT2, hT3, show ¬ ((2 : Int) = 0) by decide, show ¬ ((0 : Int) = 2) by decide]
    · rcases t with ⟨tk, tn, tls, tks⟩
      rcases x with ⟨xk, xn, xls, xks⟩
      rcases y with ⟨yk, yn, yls, yks⟩
      rcases z with ⟨zk, zn, zls, zks⟩
      simp only [resT, Te.cs, Lv.css] at hT1 hT2 hT3
      simp only [↓reduceIte, go_sem, Te.cs, hn, hT1, hT2, hT3, show ¬ ((2 : Int) = 0) by decide, show ¬ ((0 : Int) = 2) by decide]
  · have hxz : x = zeroT := by
      unfold TSubS at h1
      split at h1
      · cases h1
      · split at h1
        · cases h1
        · cases h1; rfl
    rcases t with ⟨tk, tn, tls, tks⟩
    rcases x with ⟨xk, xn, xls, xks⟩
    rcases y with ⟨yk, yn, yls, yks⟩
    rcases z with ⟨zk, zn, zls, zks⟩
    simp only [resT, Te.cs, Lv.css] at hT1 hT2 hT3
    simp only [↓reduceIte, go_sem, Te.cs, hn, hT1, hT2, hT3, show ¬ ((2 : Int) = 0) by decide, show ¬ ((0 : Int) = 2) by decide]
theorem twice_loop (t : Te) (ht : t.ok) (st : ShapeB t = true) (a b : List Lv) (ha : rightA a) (hb : rightA b) (ha3 : a.length = 3) (hab : b.length ≤ a.length) (H : List AO) : ∀ (suf pre : List Lv), a = pre ++ suf → (∀ l ∈ pre, (SubS l b []).2 = 0) →
    L_law15_TsubTwice_0 H (H ++ [.lst pre.length 3 (Lv.css (pre.map fun l => (SubS l b []).1))]) (.bool true) (.sl (Lv.css a)) (.sl (Lv.css b)) (.ol H.length pre.length) (.int .i64 pre.length) t.cs = some (.ret (.bool true), H) := by
  intro suf
  induction suf with
  | nil =>
    intro pre e hall
    rw [List.append_nil] at e
    subst e
    exact twice_fin t ht st a b ha hb hab hall H _ _ (by omega)
  | cons l suf ih =>
    intro pre e hall
    have hl : l ∈ a := by rw [e]; simp
    have hlr := rightLs_all ha.2.2 l hl
    have hlo := ha.2.1 l hl
    have hg : a[pre.length]? = some l := by rw [e]; simp
    have hlt : pre.length < 3 := by rw [e] at ha3; simp at ha3; omega
    have o0 : okLs [] := by intro x hx; cases hx
    have b1 := hb.1
    have hS := fun H => Sort13_ok l H
    have hT := fun H => TSub_ok (.mk 2 0 [l] []) b [] (okT_sort hlo) hb.2.1 o0 (by omega) (by simp) H
    rcases h1 : TSubS (.mk 2 0 [l] []) b [] with ⟨x, e1⟩
    rw [h1] at hT
    have k := TSubS_two (shape_sort hlr) hb.1 (by simp) hb.2.2 rfl h1
    rw [L_law15_TsubTwice_0, awL_eq]
    rcases k with ⟨rfl, hx, o⟩ | rfl
    · have hz : (SubS l b []).2 = 0 := by
        rw [okTm] at o
        simp at o
        exact o.1
      have hx2 : x = .mk 2 0 [(SubS l b []).1] [] := by rw [hx, subT]; rfl
      subst hx2
      have := ih (pre ++ [l]) (by rw [e]; simp) (by
        intro y hy
        simp at hy
        rcases hy with hy | rfl
        · exact hall y hy
        · exact hz)
      simp only [len_app, len_snoc, List.map_append, List.map_cons, List.map_nil] at this
      generalize (SubS l b []).1 = l2 at *
      rcases t with ⟨tk, tn, tls, tks⟩
      rcases l2 with ⟨lk, ln, lks⟩
      simp only [resT, Te.cs, Te.css, show Lv.css [] = [] from rfl, Int.natCast_add, Int.natCast_one] at hT this
      simp only [Te.cs, Te.css] at hS
      simp only [↓reduceIte, go_sem, Te.cs, hg, show (pre.length : Int) < 3 by omega, hS, hT, nat_wrap (n := pre.length) (by omega), List.length_map, css_snoc, show pre.length + (0 + 1) ≤ 1073741824 by omega, show pre.length ≤ 1073741823 by omega]
      exact this
    · rcases t with ⟨tk, tn, tls, tks⟩
      rcases x with ⟨xk, xn, xls, xks⟩
      simp only [resT, Te.cs, Te.css, show Lv.css [] = [] from rfl] at hT
      simp only [Te.cs, Te.css] at hS
      simp only [↓reduceIte, go_sem, Te.cs, hg, show (pre.length : Int) < 3 by omega, hS, hT, show ¬ ((2 : Int) = 0) by decide]
theorem TsubTwice_row (L : List Int) (hL : L.length ≤ 140737488355328 ∧ BytesOk L) (P : List (List Int)) (hP : BsOk P) (Q : List (List Int)) (hQ : BsOk Q) (H : List AO) :
    F law15_TsubTwice [.sl (u8s L), .sl (u8ss P), .sl (u8ss Q)] H = some (.ret (.bool true), H) := by
  have m1 := fun H => made13_ok L hL.2 hL.1 H
  have m2 := fun H => levels05_ok P hP 3 (by omega) H
  have m3 := fun H => levels05_ok Q hQ 3 (by omega) H
  have ht := made13S_ok hL.2
  have st := made13_shape hL.2
  have ha := made_rightA hP
  have hb := made_rightA hQ
  have la := levels05S_len P 3
  have lb := levels05S_len Q 3
  simp only [Int.cast_ofNat_Int] at m2 m3
  generalize made13S L = t at *
  generalize levels05S P 3 = a at *
  generalize levels05S Q 3 = b at *
  have hl := fun h3 h4 => twice_loop t ht st a b ha hb h3 h4 H a [] rfl (by intro l h; cases h)
  simp only [List.length_nil, Int.natCast_zero, List.map_nil, Lv.css] at hl
  rw [f_law15_TsubTwice]
  rcases t with ⟨tk, tn, tls, tks⟩
  simp only [Te.cs] at m1 hl
  by_cases h1 : (a.length : Int) < 3
  · simp only [↓reduceIte, go_sem, Te.cs, awake15_ok, m1, m2, m3, h1]
  · by_cases h2 : (b.length : Int) < 3
    · simp only [↓reduceIte, go_sem, Te.cs, awake15_ok, m1, m2, m3, h1, h2]
    · have := hl (by omega) (by omega)
      simp only [↓reduceIte, go_sem, Te.cs, awake15_ok, m1, m2, m3, h1, h2, this]
end Go.Ab
