/- What is named in a level, each once: the program's functions. Conditions: none. -/
import Derived.Test.YtgcegmmobpibbaaLo
import Derived.Test.YtgcegmmobpibbaaLw
set_option linter.unusedVariables false
set_option linter.unusedSimpArgs false
set_option maxRecDepth 100000
set_option maxHeartbeats 2000000
namespace Go.Ab
open Go.RowKit Go.Proofs

def i64s (L : List Int) : List (List AV) := L.map fun b => [.int .i64 b]
@[go_sem] theorem i64s_len (L : List Int) : (i64s L).length = L.length := by simp [i64s]
@[go_sem] theorem i64s_get (L : List Int) (i : Nat) : (i64s L)[i]? = L[i]?.map fun b => [.int .i64 b] := by simp [i64s]
@[go_sem] theorem i64s_nil : i64s [] = [] := rfl
theorem i64s_app (a b : List Int) : i64s (a ++ b) = i64s a ++ i64s b := by simp [i64s]
theorem i64s_snoc (a : List Int) (n : Int) : i64s a ++ [[.int .i64 n]] = i64s (a ++ [n]) := by simp [i64s]
theorem i64s_lt (n : Nat) (L : List Int) : ∀ a ∈ (i64s L).flatten, Lt n a := by
  intro a ha
  obtain ⟨e, he, h2⟩ := List.mem_flatten.1 ha
  obtain ⟨x, hx, rfl⟩ := List.mem_map.1 he
  simp at h2; subst h2
  exact .int _ _
@[go_sem] theorem lt_i64s (n : Nat) (L : List Int) : (∀ a ∈ (i64s L).flatten, Lt n a) = True := eq_true (i64s_lt n L)
theorem i64s_all (L : List Int) : ∀ e ∈ i64s L, e.length = 1 := by
  intro e he
  obtain ⟨x, hx, rfl⟩ := List.mem_map.1 he
  rfl

/-- Numbers behind others, each once. -/
def onceL : List Int → List Int → List Int
  | out, [] => out
  | out, n :: r => onceL (if out.contains n then out else out ++ [n]) r
theorem onceL_app : ∀ (a b out : List Int), onceL out (a ++ b) = onceL (onceL out a) b
  | [], b, out => rfl
  | n :: a, b, out => by rw [List.cons_append, onceL, onceL, onceL_app a b]
theorem onceL_len : ∀ (a out : List Int), (onceL out a).length ≤ out.length + a.length
  | [], out => by simp [onceL]
  | n :: a, out => by
    rw [onceL]
    have := onceL_len a (if out.contains n then out else out ++ [n])
    split at this <;> simp at * <;> split <;> simp_all <;> omega

def onceD (n : Nat) (p : Nat × List Int) : List AO := [.lst p.1 1 (i64s p.2), .box [.ol n p.1]]
def onceS (p : Nat × List Int) (n : Int) : Option ((Nat × List Int) ⊕ Empty) := if p.2.length < 1073741824 then (if p.2.contains n then some (.inl p) else some (.inl (p.1 + 1, p.2 ++ [n]))) else none
def noE {β : Type} (e : Empty) : β := e.elim
theorem once_fold : ∀ (xs : List Int) (ver : Nat) (es : List Int), es.length + xs.length ≤ 1073741824 → ∃ v, fold onceS xs (ver, es) = some (.inl (v, onceL es xs))
  | [], ver, es, _ => ⟨ver, rfl⟩
  | n :: r, ver, es, h => by
    simp at h
    rw [fold, onceL]
    unfold onceS
    rw [if_pos (show es.length < 1073741824 by omega)]
    by_cases h1 : es.contains n = true
    · rw [if_pos h1, if_pos h1]; exact once_fold r ver es (by omega)
    · rw [if_neg h1, if_neg h1]; exact once_fold r (ver + 1) (es ++ [n]) (by simp; omega)
/-! ### The document's functions -/
/-- A list that is built up: none as yet, or one of one's own. -/
inductive Acc (H : List AO) : AV → List Int → List AO → Prop
  | ze : Acc H .ze [] H
  | ol (ver : Nat) (es : List Int) : Acc H (.ol H.length ver) es (H ++ [.lst ver 1 (i64s es)])

theorem onceL_one (es : List Int) (n : Int) : (if es.contains n then es else es ++ [n]) = onceL es [n] := rfl
theorem Acc.frz {H : List AO} {v : AV} {es : List Int} {H1 : List AO} (h : Acc H v es H1) : fin1F H (.ret (frz1 H.length v H1).1) (frz1 H.length v H1).2 = some (.ret (.sl (i64s es)), H) := by
  cases h with
  | ze => simp only [↓reduceIte, go_sem]
  | ol ver => simp only [↓reduceIte, go_sem]
end Go.Ab
