/- What a term comes to: the document's machine. Conditions: none. -/
import Derived.Test.YtgcegmmobpibbaaUa
import Derived.Test.YtgcegmmobpibbaaTa
set_option linter.unusedVariables false
set_option linter.unusedSimpArgs false
set_option maxRecDepth 100000
set_option maxHeartbeats 2000000
namespace Go.Ab
open Go.RowKit Go.Proofs


/-- The declaration whose value a Const unfolds to. -/
def unfD (env : List De) (n : Int) (ls : List Lv) : Option De := match env[n.toNat]? with
  | some d => if d.has = true ∧ (ls.length : Int) = d.p then some d else none
  | none => none
/-- With so much fuel a term comes to another, and so much is left. -/
inductive Hd (env : List De) : Nat → Te → Te → Nat → Prop
  | stuck {n : Nat} {k N : Int} {ls : List Lv} {ks : List Te} : k ≠ 4 → k ≠ 7 → (k = 3 → 0 ≤ N ∧ unfD env N ls = none) → Hd env n (.mk k N ls ks) (.mk k N ls ks) n
  | lett {n : Nat} {N : Int} {ls : List Lv} {s v b r t' : Te} {n' : Nat} : OpenS b v = (r, 0) → Hd env n r t' n' → Hd env (n + 1) (.mk 7 N ls [s, v, b]) t' n'
  | const {n : Nat} {N : Int} {ls : List Lv} {ks : List Te} {d : De} {r t' : Te} {n' : Nat} : 0 ≤ N → unfD env N ls = some d → TSubS d.value ls [] = (r, 0) → Hd env n r t' n' → Hd env (n + 1) (.mk 3 N ls ks) t' n'
  | app {n : Nat} {N : Int} {ls : List Lv} {f a f' : Te} {n' : Nat} : Hd env n f f' n' → f'.kind ≠ 5 → Hd env n (.mk 4 N ls [f, a]) (.mk 4 0 [] [f', a]) n'
  | beta {n : Nat} {N : Int} {ls : List Lv} {f a : Te} {N2 : Int} {ls2 : List Lv} {s b : Te} {m : Nat} {r t' : Te} {n' : Nat} : Hd env n f (.mk 5 N2 ls2 [s, b]) (m + 1) → OpenS b a = (r, 0) → Hd env m r t' n' → Hd env n (.mk 4 N ls [f, a]) t' n'
/-- With so much fuel there is an error, and so much is left. -/
inductive He (env : List De) : Nat → Te → Nat → Int → Prop
  | let0 {N : Int} {ls : List Lv} {s v b : Te} : He env 0 (.mk 7 N ls [s, v, b]) 0 40
  | let2 {n : Nat} {N : Int} {ls : List Lv} {s v b r : Te} {e : Int} : OpenS b v = (r, e) → e ≠ 0 → He env (n + 1) (.mk 7 N ls [s, v, b]) n e
  | letr {n : Nat} {N : Int} {ls : List Lv} {s v b r : Te} {n' : Nat} {e : Int} : OpenS b v = (r, 0) → He env n r n' e → He env (n + 1) (.mk 7 N ls [s, v, b]) n' e
  | const0 {N : Int} {ls : List Lv} {ks : List Te} {d : De} : 0 ≤ N → unfD env N ls = some d → He env 0 (.mk 3 N ls ks) 0 40
  | const2 {n : Nat} {N : Int} {ls : List Lv} {ks : List Te} {d : De} {r : Te} {e : Int} : 0 ≤ N → unfD env N ls = some d → TSubS d.value ls [] = (r, e) → e ≠ 0 → He env (n + 1) (.mk 3 N ls ks) n e
  | constr {n : Nat} {N : Int} {ls : List Lv} {ks : List Te} {d : De} {r : Te} {n' : Nat} {e : Int} : 0 ≤ N → unfD env N ls = some d → TSubS d.value ls [] = (r, 0) → He env n r n' e → He env (n + 1) (.mk 3 N ls ks) n' e
  | appf {n : Nat} {N : Int} {ls : List Lv} {f a : Te} {n' : Nat} {e : Int} : He env n f n' e → He env n (.mk 4 N ls [f, a]) n' e
  | beta0 {n : Nat} {N : Int} {ls : List Lv} {f a : Te} {N2 : Int} {ls2 : List Lv} {s b : Te} : Hd env n f (.mk 5 N2 ls2 [s, b]) 0 → He env n (.mk 4 N ls [f, a]) 0 40
  | beta2 {n : Nat} {N : Int} {ls : List Lv} {f a : Te} {N2 : Int} {ls2 : List Lv} {s b : Te} {m : Nat} {r : Te} {e : Int} : Hd env n f (.mk 5 N2 ls2 [s, b]) (m + 1) → OpenS b a = (r, e) → e ≠ 0 → He env n (.mk 4 N ls [f, a]) m e
  | betar {n : Nat} {N : Int} {ls : List Lv} {f a : Te} {N2 : Int} {ls2 : List Lv} {s b : Te} {m : Nat} {r : Te} {n' : Nat} {e : Int} : Hd env n f (.mk 5 N2 ls2 [s, b]) (m + 1) → OpenS b a = (r, 0) → He env m r n' e → He env n (.mk 4 N ls [f, a]) n' e
theorem He.ne {env : List De} {n : Nat} {t : Te} {n' : Nat} {e : Int} (h : He env n t n' e) : e ≠ 0 := by
  induction h <;> first | decide | assumption
theorem Hd.le {env : List De} {n : Nat} {t t' : Te} {n' : Nat} (h : Hd env n t t' n') : n' ≤ n := by
  induction h <;> omega
theorem unfD_mem {env : List De} {n : Int} {ls : List Lv} {d : De} (h : unfD env n ls = some d) : env[n.toNat]? = some d ∧ d.has = true ∧ (ls.length : Int) = d.p := by
  unfold unfD at h
  cases hg : env[n.toNat]? with
  | none => rw [hg] at h; cases h
  | some x =>
    rw [hg] at h
    dsimp only at h
    split at h
    · cases h; rename_i h; exact ⟨rfl, h⟩
    · cases h
theorem OpenS_ok' {b v r : Te} {e : Int} (h : OpenS b v = (r, e)) (hb : b.ok) (hv : v.ok) : r.ok := by
  have := OpenS_ok hb hv
  rw [h] at this; exact this
theorem okLs_nil : okLs [] := by intro x hx; cases hx
theorem const_ok {env : List De} (he : okDs env) {n : Int} {ls : List Lv} {ks : List Te} {d : De} {r : Te} {e : Int} (ht : (Te.mk 3 n ls ks).ok) (hu : unfD env n ls = some d) (hs : TSubS d.value ls [] = (r, e)) : r.ok := by
  have hd := he.2 d (List.mem_of_getElem? (unfD_mem hu).1)
  have := TSubS_ok hd.2.2.2 (ps := ls) (ms := []) ht.all2 okLs_nil
  rw [hs] at this; exact this
theorem Hd.ok {env : List De} (he : okDs env) {n : Nat} {t t' : Te} {n' : Nat} (h : Hd env n t t' n') : t.ok → t'.ok := by
  induction h with
  | stuck => exact id
  | lett ho _ ih =>
    intro ht
    exact ih (OpenS_ok' ho (ht.all _ (by simp)) (ht.all _ (by simp)))
  | const _ hu hs _ ih => exact fun ht => ih (const_ok he ht hu hs)
  | app _ _ ih =>
    intro ht
    have hf := ih (ht.all _ (by simp))
    have ha := ht.all _ (show _ ∈ [_, _] from List.mem_cons_of_mem _ (List.mem_singleton.2 rfl))
    exact .mk (by simp) (by simp) (by intro x hx; cases hx) (by intro x hx; simp at hx; rcases hx with rfl | rfl <;> assumption)
  | beta _ ho _ ih1 ih2 =>
    intro ht
    have hf := ih1 (ht.all _ (by simp))
    exact ih2 (OpenS_ok' ho (hf.all _ (by simp)) (ht.all _ (by simp)))

/-! ### The document's machine -/
theorem decs_lt (n : Nat) (d : De) : ∀ a ∈ d.cs, Lt n a := by
  rcases d with ⟨p, cons, t, h, v⟩
  intro a ha
  simp only [De.cs, De.p, De.cons, De.type, De.has, De.value, List.mem_append, List.mem_cons, List.not_mem_nil, or_false] at ha
  rcases ha with (((rfl | rfl) | ha) | rfl) | ha
  · exact .int _ _
  · refine .sl fun x hx => ?_
    obtain ⟨l, hl, hx⟩ := List.mem_flatten.1 hx
    obtain ⟨c, _, rfl⟩ := List.mem_map.1 hl
    rcases List.mem_append.1 hx with hx | hx
    · exact cs_lt n c.a x hx
    · exact cs_lt n c.b x hx
  · exact tcs_lt n t a ha
  · exact .bool _
  · exact tcs_lt n v a ha
theorem decss_lt (n : Nat) (env : List De) : ∀ a ∈ (De.css env).flatten, Lt n a := by
  intro a ha
  obtain ⟨l, hl, hx⟩ := List.mem_flatten.1 ha
  obtain ⟨d, _, rfl⟩ := List.mem_map.1 hl
  exact decs_lt n d a hx
@[go_sem] theorem lt_decss (n : Nat) (env : List De) : (∀ a ∈ (De.css env).flatten, Lt n a) = True := eq_true (decss_lt n env)
theorem mB_lt (n : Nat) (env : List De) (f e : Int) : LtO n (.box [.sl (De.css env), .int .i64 f, .int .i64 e]) := by
  intro a ha
  simp at ha
  rcases ha with rfl | rfl | rfl
  · exact .sl (decss_lt n env)
  · exact .int _ _
  · exact .int _ _
@[go_sem] theorem toNat_two : Int.toNat 2 = 2 := rfl
end Go.Ab
