/- Layer 16: declarations by numbers. Conditions: none. -/
import Derived.Test.YtgcegmmobpibbaaUl
set_option linter.unusedVariables false
set_option linter.unusedSimpArgs false
set_option maxRecDepth 100000
set_option maxHeartbeats 4000000
namespace Go.Ab
open Go.RowKit Go.Proofs

def con1 (L : List Int) (p : Int) (a : Int) : Co × Int := (.mk (levelS L p 0 2 a).1 (levelS L p 0 2 (levelS L p 0 2 a).2).1, (levelS L p 0 2 (levelS L p 0 2 a).2).2)
def declK (L : List Int) : List Co × Int := if 1 < pickS L 1 3 then ([(con1 L (pickS L 0 3) 2).1], (con1 L (pickS L 0 3) 2).2) else ([], 2)
/-- A declaration for a place, by numbers. -/
def declS (L : List Int) (c : Int) : De × Int :=
  let p := pickS L 0 3
  let t := closedS L c p 3 0 (declK L).2
  if 0 < pickS L t.2 3 then (.mk p (declK L).1 t.1 true (closedS L c p 4 0 (t.2 + 1)).1, (closedS L c p 4 0 (t.2 + 1)).2)
  else (.mk p (declK L).1 t.1 false zeroT, t.2 + 1)
theorem decl_ok (L : List Int) (hL : BytesOk L) (hlen : L.length ≤ 140737488355328) (c : Int) (hc : 0 ≤ c ∧ c ≤ 100) (id : Nat) (H : List AO) (hid : id < H.length) :
    F law16_Decl [.ptr id 0, .int .i64 c] (H.set id (mkr L 0)) = some (.ret (.agg (declS L c).1.cs), H.set id (mkr L (declS L c).2)) := by
  have hid2 : ∀ X : List AO, id < (H ++ X).length := fun X => by simp; omega
  have hp := pick_range hL 0 (n := 3) (by omega)
  have hi := pick_range hL 1 (n := 3) (by omega)
  have hK : 2 ≤ (declK L).2 ∧ (declK L).2 ≤ 100 := by
    unfold declK
    split
    · have h1 := levelS_at L (pickS L 0 3) 0 2 2
      have h2 := levelS_at L (pickS L 0 3) 0 2 (levelS L (pickS L 0 3) 0 2 2).2
      simp only [Int.reducePow, Nat.reduceAdd] at h1 h2
      simp only [con1]
      omega
    · simp
  have hP0 := fun Y => pick_ok' L hL hlen 0 (by omega) 3 (by omega) id (H ++ Y) (hid2 _) (by omega)
  have hP1 := fun Y => pick_ok' L hL hlen 1 (by omega) 3 (by omega) id (H ++ Y) (hid2 _) (by omega)
  have hl1 : ∀ Y, F law02_Maker_Level [.ptr id 0, .int .i64 (pickS L 0 3), .int .i64 0, .int .i64 2] ((H ++ Y).set id (mkr L 2)) = _ := fun Y => level_ok L hL hlen (pickS L 0 3) 0 (by omega) (by omega) 1 (by omega) 2 (by simp) id (H ++ Y) (hid2 _)
  have hlv := levelS_at L (pickS L 0 3) 0 2 2
  simp only [Int.reducePow, Nat.reduceAdd] at hlv
  have hl2 : ∀ Y, F law02_Maker_Level [.ptr id 0, .int .i64 (pickS L 0 3), .int .i64 0, .int .i64 2] ((H ++ Y).set id (mkr L (levelS L (pickS L 0 3) 0 2 2).2)) = _ := fun Y => level_ok L hL hlen (pickS L 0 3) 0 (by omega) (by omega) 1 (by omega) _ (by simp; omega) id (H ++ Y) (hid2 _)
  have hT : ∀ Y, F law16_closed [.ptr id 0, .int .i64 c, .int .i64 (pickS L 0 3), .int .i64 0, .int .i64 3] ((H ++ Y).set id (mkr L (declK L).2)) = some (.ret (.agg (closedS L c (pickS L 0 3) 3 0 (declK L).2).1.cs), (H ++ Y).set id (mkr L (closedS L c (pickS L 0 3) 3 0 (declK L).2).2)) := fun Y => closed_ok c (pickS L 0 3) hc (by omega) L hL hlen 2 (by omega) 0 (by omega) (declK L).2 (by omega) id (H ++ Y) (hid2 _)
  have ha := closedS_at c (pickS L 0 3) hL 3 0 (declK L).2
  simp only [Int.reducePow] at ha
  have hP3 := fun Y => pick_ok' L hL hlen (closedS L c (pickS L 0 3) 3 0 (declK L).2).2 (by omega) 3 (by omega) id (H ++ Y) (hid2 _) (by omega)
  have hV : ∀ Y, F law16_closed [.ptr id 0, .int .i64 c, .int .i64 (pickS L 0 3), .int .i64 0, .int .i64 4] ((H ++ Y).set id (mkr L ((closedS L c (pickS L 0 3) 3 0 (declK L).2).2 + 1))) = some (.ret (.agg (closedS L c (pickS L 0 3) 4 0 ((closedS L c (pickS L 0 3) 3 0 (declK L).2).2 + 1)).1.cs), (H ++ Y).set id (mkr L (closedS L c (pickS L 0 3) 4 0 ((closedS L c (pickS L 0 3) 3 0 (declK L).2).2 + 1)).2)) := fun Y => closed_ok c (pickS L 0 3) hc (by omega) L hL hlen 3 (by omega) 0 (by omega) _ (by omega) id (H ++ Y) (hid2 _)
  rw [declS]
  generalize closedS L c (pickS L 0 3) 3 0 (declK L).2 = q at *
  generalize closedS L c (pickS L 0 3) 4 0 (q.2 + 1) = r at *
  rcases q with ⟨⟨k1, n1, ls1, ks1⟩, b1⟩
  rcases r with ⟨⟨k2, n2, ls2, ks2⟩, b2⟩
  simp only [Te.cs] at hT hV hP3
  rw [f_law16_Decl]
  have hcs : ∀ (x y : Lv) (u v w z o k : AV), over [u, v, w, z, o, k] 0 x.cs = x.cs ++ [z, o, k] := by intro x y; intros; rcases x with ⟨_, _, _⟩; rfl
  have hcs2 : ∀ (x y : Lv) (u v w : AV), over (x.cs ++ [u, v, w]) 3 y.cs = x.cs ++ y.cs := by intro x y; intros; rcases x with ⟨_, _, _⟩; rcases y with ⟨_, _, _⟩; rfl
  by_cases h1 : 1 < pickS L 1 3
  · have h2 : pickS L 1 3 = 2 := by omega
    simp only [declK, con1, if_pos h1] at hT ⊢
    generalize hx : levelS L (pickS L 0 3) 0 2 2 = x at *
    generalize hy : levelS L (pickS L 0 3) 0 2 x.2 = y at *
    rcases x with ⟨⟨k3, n3, ks3⟩, b3⟩
    rcases y with ⟨⟨k4, n4, ks4⟩, b4⟩
    simp only [Lv.cs] at hl1 hl2
    by_cases h3 : 0 < pickS L b1 3
    · rw [if_pos h3]
      simp only [↓reduceIte, go_sem, st_app, st_getN hid, st_get0 hid, st_setN hid, st_set0 hid, List.length_set, hid, lt_addr, st_fin hid, hP0, hP1, hP3, hT, hV, hl1, hl2, hcs, hcs2, Lv.cs, h2, h3, show ((1:Int) < 2) from by decide, show ¬ ((1:Int) < 1) from by decide, show IntKind.i64.wrap 1 = 1 from by decide, Nat.add_le_add_iff_left, Nat.reduceLeDiff, De.cs, De.p, De.cons, De.type, De.has, De.value, Co.css, Co.cs, Co.a, Co.b, Te.cs, zeroT, Lv.css, Te.css, List.map_cons, List.map_nil, List.cons_append, List.nil_append]
      rw [L_law16_Decl_0, awL_eq]
      simp only [↓reduceIte, go_sem, st_app, st_getN hid, st_get0 hid, st_setN hid, st_set0 hid, List.length_set, hid, lt_addr, st_fin hid, hP0, hP1, hP3, hT, hV, hl1, hl2, hcs, hcs2, Lv.cs, h2, h3, show ((1:Int) < 2) from by decide, show ¬ ((1:Int) < 1) from by decide, show IntKind.i64.wrap 1 = 1 from by decide, Nat.add_le_add_iff_left, Nat.reduceLeDiff, De.cs, De.p, De.cons, De.type, De.has, De.value, Co.css, Co.cs, Co.a, Co.b, Te.cs, zeroT, Lv.css, Te.css, List.map_cons, List.map_nil, List.cons_append, List.nil_append]
      rw [L_law16_Decl_0, awL_eq]
      simp only [↓reduceIte, go_sem, st_app, st_getN hid, st_get0 hid, st_setN hid, st_set0 hid, List.length_set, hid, lt_addr, st_fin hid, hP0, hP1, hP3, hT, hV, hl1, hl2, hcs, hcs2, Lv.cs, h2, h3, show ((1:Int) < 2) from by decide, show ¬ ((1:Int) < 1) from by decide, show IntKind.i64.wrap 1 = 1 from by decide, Nat.add_le_add_iff_left, Nat.reduceLeDiff, De.cs, De.p, De.cons, De.type, De.has, De.value, Co.css, Co.cs, Co.a, Co.b, Te.cs, zeroT, Lv.css, Te.css, List.map_cons, List.map_nil, List.cons_append, List.nil_append]
    · rw [if_neg h3]
      simp only [↓reduceIte, go_sem, st_app, st_getN hid, st_get0 hid, st_setN hid, st_set0 hid, List.length_set, hid, lt_addr, st_fin hid, hP0, hP1, hP3, hT, hV, hl1, hl2, hcs, hcs2, Lv.cs, h2, h3, show ((1:Int) < 2) from by decide, show ¬ ((1:Int) < 1) from by decide, show IntKind.i64.wrap 1 = 1 from by decide, Nat.add_le_add_iff_left, Nat.reduceLeDiff, De.cs, De.p, De.cons, De.type, De.has, De.value, Co.css, Co.cs, Co.a, Co.b, Te.cs, zeroT, Lv.css, Te.css, List.map_cons, List.map_nil, List.cons_append, List.nil_append]
      rw [L_law16_Decl_0, awL_eq]
      simp only [↓reduceIte, go_sem, st_app, st_getN hid, st_get0 hid, st_setN hid, st_set0 hid, List.length_set, hid, lt_addr, st_fin hid, hP0, hP1, hP3, hT, hV, hl1, hl2, hcs, hcs2, Lv.cs, h2, h3, show ((1:Int) < 2) from by decide, show ¬ ((1:Int) < 1) from by decide, show IntKind.i64.wrap 1 = 1 from by decide, Nat.add_le_add_iff_left, Nat.reduceLeDiff, De.cs, De.p, De.cons, De.type, De.has, De.value, Co.css, Co.cs, Co.a, Co.b, Te.cs, zeroT, Lv.css, Te.css, List.map_cons, List.map_nil, List.cons_append, List.nil_append]
      rw [L_law16_Decl_0, awL_eq]
      simp only [↓reduceIte, go_sem, st_app, st_getN hid, st_get0 hid, st_setN hid, st_set0 hid, List.length_set, hid, lt_addr, st_fin hid, hP0, hP1, hP3, hT, hV, hl1, hl2, hcs, hcs2, Lv.cs, h2, h3, show ((1:Int) < 2) from by decide, show ¬ ((1:Int) < 1) from by decide, show IntKind.i64.wrap 1 = 1 from by decide, Nat.add_le_add_iff_left, Nat.reduceLeDiff, De.cs, De.p, De.cons, De.type, De.has, De.value, Co.css, Co.cs, Co.a, Co.b, Te.cs, zeroT, Lv.css, Te.css, List.map_cons, List.map_nil, List.cons_append, List.nil_append]
  · simp only [declK, if_neg h1] at hT ⊢
    have h2 : True := trivial
    by_cases h3 : 0 < pickS L b1 3
    · rw [if_pos h3]
      simp only [↓reduceIte, go_sem, st_app, st_getN hid, st_get0 hid, st_setN hid, st_set0 hid, List.length_set, hid, lt_addr, st_fin hid, hP0, hP1, hP3, hT, hV, h1, h3, De.cs, De.p, De.cons, De.type, De.has, De.value, Co.css, Co.cs, Co.a, Co.b, Te.cs, zeroT, Lv.css, Te.css, List.map_cons, List.map_nil, List.cons_append, List.nil_append]
      rw [L_law16_Decl_0, awL_eq]
      simp only [↓reduceIte, go_sem, st_app, st_getN hid, st_get0 hid, st_setN hid, st_set0 hid, List.length_set, hid, lt_addr, st_fin hid, hP0, hP1, hP3, hT, hV, h1, h3, De.cs, De.p, De.cons, De.type, De.has, De.value, Co.css, Co.cs, Co.a, Co.b, Te.cs, zeroT, Lv.css, Te.css, List.map_cons, List.map_nil, List.cons_append, List.nil_append]
    · rw [if_neg h3]
      simp only [↓reduceIte, go_sem, st_app, st_getN hid, st_get0 hid, st_setN hid, st_set0 hid, List.length_set, hid, lt_addr, st_fin hid, hP0, hP1, hP3, hT, hV, h1, h3, De.cs, De.p, De.cons, De.type, De.has, De.value, Co.css, Co.cs, Co.a, Co.b, Te.cs, zeroT, Lv.css, Te.css, List.map_cons, List.map_nil, List.cons_append, List.nil_append]
      rw [L_law16_Decl_0, awL_eq]
      simp only [↓reduceIte, go_sem, st_app, st_getN hid, st_get0 hid, st_setN hid, st_set0 hid, List.length_set, hid, lt_addr, st_fin hid, hP0, hP1, hP3, hT, hV, h1, h3, De.cs, De.p, De.cons, De.type, De.has, De.value, Co.css, Co.cs, Co.a, Co.b, Te.cs, zeroT, Lv.css, Te.css, List.map_cons, List.map_nil, List.cons_append, List.nil_append]

theorem app_set' {H : List AO} {x y : AO} : (H ++ [x]).set H.length y = H ++ [y] := by simp
theorem decl_new (L : List Int) (hL : BytesOk L) (hlen : L.length ≤ 140737488355328) (c : Int) (hc : 0 ≤ c ∧ c ≤ 100) (X : List AO) :
    F law16_Decl [.ptr X.length 0, .int .i64 c] (X ++ [mkr L 0]) = some (.ret (.agg (declS L c).1.cs), X ++ [mkr L (declS L c).2]) := by
  have := decl_ok L hL hlen c hc X.length (X ++ [mkr L 0]) (by simp)
  rwa [app_set', app_set'] at this
def envF : List (List Int) → Nat → List De
  | [], _ => []
  | l :: r, i => if i < 4 then (declS l i).1 :: envF r (i + 1) else []
def u8ss (l : List (List Int)) : List (List AV) := l.map fun l => [.sl (u8s l)]
def BsOk (l : List (List Int)) : Prop := l.length ≤ 140737488355328 ∧ ∀ x ∈ l, x.length ≤ 140737488355328 ∧ BytesOk x
theorem u8ss_get (l : List (List Int)) (i : Nat) : (u8ss l)[i]? = l[i]?.map fun l => [AV.sl (u8s l)] := by simp [u8ss]
theorem u8ss_len (l : List (List Int)) : (u8ss l).length = l.length := by simp [u8ss]
theorem decss_snoc (a : List De) (x : De) : De.css a ++ [x.cs] = De.css (a ++ [x]) := by simp [De.css]
theorem env_ok (l : List (List Int)) (hl : BsOk l) (H : List AO) : F law16_Env [.sl (u8ss l)] H = some (.ret (.sl (De.css (envF l 0))), H) := by
  have loop : ∀ (suf pre : List (List Int)) (done : List De) (J : List AO), l = pre ++ suf → done.length = pre.length → pre.length ≤ 4 →
      L_law16_Env_0 H (H ++ (.lst 0 11 [] :: .lst done.length 11 (De.css done) :: J)) (.sl (u8ss l)) (.ol (H.length + 1) done.length) (.int .i64 pre.length) = some (.ret (.sl (De.css (done ++ envF suf pre.length))), H) := by
    intro suf
    induction suf with
    | nil =>
      intro pre done J e hd hp
      have hn : ¬ (pre.length : Int) < l.length := by rw [e]; simp
      rw [L_law16_Env_0, awL_eq, envF, List.append_nil]
      simp only [↓reduceIte, go_sem, u8ss_len, hn]
    | cons x suf ih =>
      intro pre done J e hd hp
      have hn : (pre.length : Int) < l.length := by rw [e]; simp; omega
      rw [envF]
      by_cases h4 : pre.length < 4
      · have hg : l[pre.length]? = some x := by rw [e]; simp
        obtain ⟨hx1, hx2⟩ := hl.2 x (by rw [e]; simp)
        have hD := decl_new x hx2 hx1 pre.length (by omega) (H ++ (.lst 0 11 [] :: .lst done.length 11 (De.css done) :: J))
        have := ih (pre ++ [x]) (done ++ [(declS x pre.length).1]) (J ++ [mkr x (declS x pre.length).2]) (by rw [e]; simp) (by simp [hd]) (by simp; omega)
        simp only [len_app, List.length_append, List.length_cons, List.length_nil, List.append_assoc, List.cons_append, List.nil_append, Nat.zero_add] at this hD
        rw [L_law16_Env_0, awL_eq, if_pos h4]
        have h0 : AO.box [.sl (u8s x), .int .i64 0] = mkr x 0 := rfl
        simp only [↓reduceIte, go_sem, u8ss_len, u8ss_get, hn, h4, show (pre.length : Int) < 4 by omega, hg, h0, hD, decss_snoc, show done.length ≤ 1073741823 by omega, nat_wrap (n := pre.length) (by omega)]
        exact this
      · rw [L_law16_Env_0, awL_eq, if_neg h4, List.append_nil]
        simp only [↓reduceIte, go_sem, u8ss_len, hn, show ¬ (pre.length : Int) < 4 by omega]
  have := loop l [] [] [] rfl rfl (by simp)
  simp only [List.length_nil, Int.natCast_zero, List.nil_append, De.css, List.map_nil] at this
  rw [f_law16_Env]
  simp only [↓reduceIte, go_sem, this, De.css]
end Go.Ab
