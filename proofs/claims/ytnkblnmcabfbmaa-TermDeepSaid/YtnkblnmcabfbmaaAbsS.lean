/- Part S: what an operation looks at, and what it does. Conditions: none. -/
import Derived.Test.YtnkblnmcabfbmaaAbsQ
set_option linter.unusedVariables false
set_option linter.unusedSimpArgs false
namespace Go.Ab

def as2 (X : AX → TV) : List AX → Option (List AV)
  | [] => some []
  | x :: r => match (X x).av with
    | some a => match as2 X r with
      | some l => some (a :: l)
      | none => none
    | none => none
def fills2 (X : AX → TV) : List AV → List (Nat × Nat × AX) → Option (List AV)
  | z, [] => some z
  | z, (off, sz, x) :: r => match (X x).av with
    | some a => match a.cellsN sz with
      | some cs => if off + sz ≤ z.length then fills2 X (over z off cs) r else none
      | none => none
    | none => none
def fillE2 (X : AX → TV) (sz : Nat) : List (List AV) → List (Nat × AX) → Option (List (List AV))
  | z, [] => some z
  | z, (i, x) :: r => match (X x).av with
    | some a => match a.cellsN sz with
      | some cs => if i < z.length then fillE2 X sz (z.set i cs) r else none
      | none => none
    | none => none
def elems2 (h : List AO) : AV → Option (List (List AV))
  | .sl es => some es
  | .nils _ => some []
  | .ol id ver => match h[id]? with
    | some (.lst v _ es) => if v = ver then some es else none
    | _ => none
  | _ => none

theorem as2_eq (σ : St) : ∀ l, σ.as l = as2 σ.x l
  | [] => rfl
  | x :: r => by simp only [St.as, as2, as2_eq σ r]; rfl
theorem fills2_eq (σ : St) : ∀ (l : List (Nat × Nat × AX)) (z : List AV), fills σ z l = fills2 σ.x z l
  | [], z => rfl
  | (off, sz, x) :: r, z => by
    simp only [fills, fills2, St.a]
    cases (σ.x x).av with
    | none => rfl
    | some a =>
      dsimp only
      cases a.cellsN sz with
      | none => rfl
      | some cs => dsimp only; rw [fills2_eq σ r]
theorem fillE2_eq (σ : St) (sz : Nat) : ∀ (l : List (Nat × AX)) (z : List (List AV)), fillE σ sz z l = fillE2 σ.x sz z l
  | [], z => rfl
  | (i, x) :: r, z => by
    simp only [fillE, fillE2, St.a]
    cases (σ.x x).av with
    | none => rfl
    | some a =>
      dsimp only
      cases a.cellsN sz with
      | none => rfl
      | some cs => dsimp only; rw [fillE2_eq σ sz r]
theorem elems2_eq (σ : St) (a : AV) : elems σ a = elems2 σ.h a := by cases a <;> rfl

def evo2 (d : Nat) (o : AOp) (X : AX → TV) (L : Nat → Option (List AV)) (h : List AO) : Option (TV × Option (Bool × Nat × List AV) × List AO) :=
  match o with
  | .mv x => some (X x, none, h)
  | .mvO sz => some (.v (.ol h.length 0), (none, h ++ [.lst 0 sz []]))
  | .pick c a b => match (X c).av with
    | some (.bool p) => match p with
      | true => some (X a, none, h)
      | false => some (X b, none, h)
    | _ => none
  | .alc z => match L d with
    | none => some (.lp d 0, (some (true, d, noz z), h))
    | some _ => none
  | .alcO z => match L d with
    | none => match ownz z h with
      | (cs, h') => some (.lp d 0, (some (true, d, cs), h'))
    | some _ => none
  | .alcH z => some (.v (.ptr h.length 0), (none, h ++ [.box (noz z)]))
  | .alcHO z => match ownz z h with
    | (cs, h') => some (.v (.ptr h'.length 0), (none, h' ++ [.box cs]))
  | .bx x => match L d with
    | none => match (X x).av with
      | some a => match a.cellsN a.cells.length with
        | some cs => some (.lp d 0, (some (true, d, cs), h))
        | none => none
      | none => none
    | some _ => none
  | .bxH x => match (X x).av with
    | some a => match a.cellsN a.cells.length with
      | some cs => some (.v (.ptr h.length 0), (none, h ++ [.box cs]))
      | none => none
    | none => none
  | .bld z ps => match fills2 X (noz z) ps with
    | some cs => some (.v (.agg cs), none, h)
    | none => none
  | .bldO z ps => match ownz z h with
    | (cs, h') => match fills2 X cs ps with
      | some cs => some (.v (.agg cs), (none, h'))
      | none => none
  | .bsl sz n z ps => match fillE2 X sz (List.replicate n (noz z)) ps with
    | some es => if (noz z).length = sz ∧ 0 < sz ∧ n ≤ 1024 ∧ sz ≤ 1024 then some (.v (.sl es), none, h) else none
    | none => none
  | .bslO sz n z ps => match fillE2 X sz (List.replicate n (noz z)) ps with
    | some es => if (noz z).length = sz ∧ 0 < sz ∧ n ≤ 1024 ∧ sz ≤ 1024 then some (.v (.ol h.length 0), (none, h ++ [.lst 0 sz es])) else none
    | none => none
  | .ld n ag a => match X a with
    | .lp k off => match L k with
      | some cs => match rd n ag (cs.drop off) with
        | some x => some (x, none, h)
        | none => none
      | none => none
    | .ep cs => match rd n ag cs with
      | some x => some (x, none, h)
      | none => none
    | .v (.ptr id off) => match h[id]? with
      | some (.box cs) => match rd n ag (cs.drop off) with
        | some x => some (x, none, h)
        | none => none
      | _ => none
    | .op id ver sz i off => match h[id]? with
      | some (.lst v sz' es) => if v = ver ∧ sz' = sz then match es[i]? with
        | some e => match rd n ag (e.drop off) with
          | some x => some (x, none, h)
          | none => none
        | none => none
        else none
      | _ => none
    | _ => none
  | .ldl n ag a => match X a with
    | .lp k off => match L k with
      | some cs => match rd n ag (cs.drop off) with
        | some x => some (x, none, h)
        | none => none
      | none => none
    | _ => none
  | .ldz n ag a => match X a with
    | .lp k off => match L k with
      | some cs => match frzC 0 cs h with
        | (cs', h') => match rd n ag (cs'.drop off) with
          | some x => some (x, some (false, k, cs'), h')
          | none => none
      | none => none
    | _ => none
  | .st n a x => match (X x).av with
    | some y => match y.cellsN n with
      | some cs => match X a with
        | .lp k off => match L k with
          | some c0 => if off + n ≤ c0.length then some (.junk, (some (false, k, over c0 off cs), h)) else none
          | none => none
        | .v (.ptr id off) => match h[id]? with
          | some (.box c0) => if off + n ≤ c0.length then some (.junk, (none, h.set id (.box (over c0 off cs)))) else none
          | _ => none
        | .op id ver sz i off => match h[id]? with
          | some (.lst v sz' es) => if v = ver ∧ sz' = sz then match es[i]? with
            | some e => if off + n ≤ e.length then some (.junk, (none, h.set id (.lst v sz (es.set i (over e off cs))))) else none
            | none => none
            else none
          | _ => none
        | _ => none
      | none => none
    | none => none
  | .nilc x => match X x with
    | .v (.ptr id off) => some (.v (.ptr id off), none, h)
    | .lp k off => some (.lp k off, none, h)
    | .v (.fn f a c) => match f with
      | .method _ => none
      | f => some (.v (.fn f a c), none, h)
    | _ => none
  | .bin op x y => match (X x).av, (X y).av with
    | some (.int k a), some (.int k' b) => if k = k' then match binI op k a b with
      | some r => some (.v r, none, h)
      | none => none
      else none
    | _, _ => none
  | .eqb neg x y => match (X x).av, (X y).av with
    | some (.bool a), some (.bool b) => some (.v (.bool (if neg then !(a == b) else a == b)), none, h)
    | _, _ => none
  | .not x => match (X x).av with
    | some (.bool b) => some (.v (.bool (!b)), none, h)
    | _ => none
  | .cv k x => match (X x).av with
    | some (.int _ n) => some (.v (.int k (k.wrap n)), none, h)
    | _ => none
  | .fa off x => match X x with
    | .lp k o => some (.lp k (o + off), none, h)
    | .ep cs => some (.ep (cs.drop off), none, h)
    | .v (.ptr id o) => some (.v (.ptr id (o + off)), none, h)
    | .op id ver sz i o => some (.op id ver sz i (o + off), none, h)
    | _ => none
  | .fld off n ag x => match (X x).av with
    | some (.agg cs) => match rd n ag (cs.drop off) with
      | some r => some (r, none, h)
      | none => none
    | _ => none
  | .ia sz x i => match (X i).av with
    | some (.int _ n) => match (X x).av with
      | some (.sl es) => if 0 ≤ n then match es[n.toNat]? with
        | some e => if e.length = sz then some (.ep e, none, h) else none
        | none => none
        else none
      | some (.ol id ver) => match h[id]? with
        | some (.lst v sz' es) => if v = ver ∧ sz' = sz ∧ 0 ≤ n ∧ n.toNat < es.length then some (.op id ver sz n.toNat 0, none, h) else none
        | _ => none
      | _ => none
    | _ => none
  | .lk ok z x i => match (X i).av with
    | some (.int k n) => match (match (X x).av with
        | some (.fmap es) => some es
        | some (.mp id) => match h[id]? with
          | some (.mapo es) => some es
          | _ => none
        | _ => none) with
      | some es => if keysI k es then match findI n es with
        | some (some v) => some (.v (if ok then .tup [v, .bool true] else v), none, h)
        | some none => some (.v (if ok then .tup [z, .bool false] else z), none, h)
        | none => none
        else none
      | none => none
    | _ => none
  | .ins m k v => match (X m).av, (X k).av, (X v).av with
    | some (.mp id), some (.int k n), some y => match h[id]? with
      | some (.mapo es) => if keysI k es then match findI n es with
        | some none => some (.junk, (none, h.set id (.mapo (es ++ [(.int k n, y)]))))
        | _ => none
        else none
      | _ => none
    | _, _, _ => none
  | .ext x i => match (X x).av with
    | some (.tup vs) => match vs[i]? with
      | some a => some (.v a, none, h)
      | none => none
    | _ => none
  | .len x => match (X x).av with
    | some a => match elems2 h a with
      | some es => some (.v (.int .i64 (es.length : Int)), none, h)
      | none => none
    | none => none
  | .app sz x y => match (X x).av, (X y).av with
    | some (.ol id ver), some b => match h[id]?, elems2 h b with
      | some (.lst v sz' es), some fs =>
        if v = ver ∧ sz' = sz ∧ 0 < sz ∧ sz ≤ 1024 ∧ es.length + fs.length ≤ 1073741824 ∧ (∀ e ∈ fs, e.length = sz) then
          some (.v (.ol id (ver + 1)), (none, h.set id (.lst (ver + 1) sz (es ++ fs)))) else none
      | _, _ => none
    | _, _ => none
  | .mx x y => match (X x).av, (X y).av with
    | some (.int k a), some (.int k' b) => if k = k' then some (.v (.int k (if b > a then b else a)), none, h) else none
    | _, _ => none
  | .mkf f first cap => match as2 X first, as2 X cap with
    | some a, some b => some (.v (.fn f a b), none, h)
    | _, _ => none
  | .mkm => some (.v (.mp h.length), (none, h ++ [.mapo []]))
  | .mks sz z l => match (X l).av with
    | some (.int _ n) => if 0 ≤ n ∧ n ≤ 1073741824 ∧ (noz z).length = sz ∧ 0 < sz ∧ sz ≤ 1024 then
        some (.v (.ol h.length 0), (none, h ++ [.lst 0 sz (List.replicate n.toNat (noz z))])) else none
    | _ => none
  | .mkz sz z l => match (X l).av with
    | some (.int _ n) => if 0 ≤ n ∧ n ≤ 1073741824 ∧ (noz z).length = sz ∧ 0 < sz ∧ sz ≤ 1024 then
        some (.v (.sl (List.replicate n.toNat (noz z))), none, h) else none
    | _ => none
  | .slc sz x lo hi => match (X x).av with
    | some (.sl es) => match (match lo with | none => some (0 : Int) | some y => match (X y).av with | some (.int _ n) => some n | _ => none),
          (match hi with | none => some (es.length : Int) | some y => match (X y).av with | some (.int _ n) => some n | _ => none) with
      | some l, some u => if 0 ≤ l ∧ l ≤ u ∧ u ≤ es.length ∧ (∀ e ∈ es, e.length = sz) then some (.v (.sl ((es.take u.toNat).drop l.toNat)), none, h) else none
      | _, _ => none
    | some (.ol id ver) => match lo, hi with
      | none, some y => match (X y).av, h[id]? with
        | some (.int _ n), some (.lst v sz' es) => if v = ver ∧ sz' = sz ∧ 0 < sz ∧ 0 ≤ n ∧ n ≤ es.length then
            some (.v (.ol id (ver + 1)), (none, h.set id (.lst (ver + 1) sz (es.take n.toNat)))) else none
        | _, _ => none
      | _, _ => none
    | _ => none
  | .ifc t x => match (X x).av with
    | some a => some (.v (.iface t a), none, h)
    | none => none


def ape : Option (Bool × Nat × List AV) → List (Nat × List AV) → List (Nat × List AV)
  | none, ls => ls
  | some (true, k, c), ls => (k, c) :: ls
  | some (false, k, c), ls => put k c ls

def AOp.axs : AOp → List AX
  | .mv x | .bx x | .bxH x | .nilc x | .not x | .cv _ x | .fa _ x | .fld _ _ _ x | .ext x _ | .len x | .mks _ _ x | .mkz _ _ x | .ifc _ x | .ld _ _ x | .ldl _ _ x | .ldz _ _ x => [x]
  | .mvO _ | .alc _ | .alcO _ | .alcH _ | .alcHO _ | .mkm => []
  | .pick a b c | .ins a b c => [a, b, c]
  | .bld _ ps | .bldO _ ps => ps.map (·.2.2)
  | .bsl _ _ _ ps | .bslO _ _ _ ps => ps.map (·.2)
  | .st _ x y | .bin _ x y | .eqb _ x y | .ia _ x y | .lk _ _ x y | .app _ x y | .mx x y => [x, y]
  | .mkf _ a b => a ++ b
  | .slc _ x lo hi => x :: (lo.toList ++ hi.toList)

theorem evo_eq (d : Nat) (op : AOp) (σ : St) : evo d op σ = (evo2 d op σ.x (fun k => look k σ.ls) σ.h).map fun r => (r.1, { σ with ls := ape r.2.1 σ.ls, h := r.2.2 }) := by
  cases op with
  | ld n ag a =>
    simp only [evo, evo2]
    cases σ.x a with
    | lp k off =>
      dsimp only
      cases look k σ.ls with
      | none => rfl
      | some cs => dsimp only; cases rd n ag (cs.drop off) <;> rfl
    | ep cs => dsimp only; cases rd n ag cs <;> rfl
    | v y =>
      cases y with
      | ptr id off =>
        dsimp only
        cases σ.h[id]? with
        | none => rfl
        | some o =>
          cases o with
          | box cs => dsimp only; cases rd n ag (cs.drop off) <;> rfl
          | _ => rfl
      | _ => rfl
    | op id ver sz i off =>
      dsimp only
      cases σ.h[id]? with
      | none => rfl
      | some o =>
        cases o with
        | lst v sz' es =>
          dsimp only
          split
          · cases es[i]? with
            | none => rfl
            | some e => dsimp only; cases rd n ag (e.drop off) <;> rfl
          · rfl
        | _ => rfl
    | junk => rfl
    | und => rfl
  | ldl n ag a =>
    simp only [evo, evo2]
    cases σ.x a with
    | lp k off =>
      dsimp only
      cases look k σ.ls with
      | none => rfl
      | some cs => dsimp only; cases rd n ag (cs.drop off) <;> rfl
    | _ => rfl
  | ldz n ag a =>
    simp only [evo, evo2]
    cases σ.x a with
    | lp k off =>
      dsimp only
      cases look k σ.ls with
      | none => rfl
      | some cs => dsimp only; cases rd n ag (List.drop off (frzC 0 cs σ.h).1) <;> rfl
    | _ => rfl
  | st n a x =>
    simp only [evo, evo2, St.a]
    cases (σ.x x).av with
    | none => rfl
    | some y =>
      dsimp only
      cases y.cellsN n with
      | none => rfl
      | some cs =>
        dsimp only
        cases σ.x a with
        | lp k off =>
          dsimp only
          cases look k σ.ls with
          | none => rfl
          | some c0 => dsimp only; split <;> rfl
        | v y =>
          cases y with
          | ptr id off =>
            dsimp only
            cases σ.h[id]? with
            | none => rfl
            | some o =>
              cases o with
              | box cs => dsimp only; split <;> rfl
              | _ => rfl
          | _ => rfl
        | op id ver sz i off =>
          dsimp only
          cases σ.h[id]? with
          | none => rfl
          | some o =>
            cases o with
            | lst v sz' es =>
              dsimp only
              split
              · cases es[i]? with
                | none => rfl
                | some e => dsimp only; split <;> rfl
              · rfl
            | _ => rfl
        | _ => rfl
  | nilc x =>
    simp only [evo, evo2]
    cases σ.x x with
    | v y =>
      cases y with
      | fn f a c => cases f <;> rfl
      | _ => rfl
    | _ => rfl
  | fa off x => simp only [evo, evo2]; cases σ.x x <;> first | rfl | (rename_i y; cases y <;> rfl)
  | bin o x y =>
    simp only [evo, evo2, St.a]
    cases (σ.x x).av with
    | none => rfl
    | some a =>
      cases (σ.x y).av with
      | none => cases a <;> rfl
      | some b =>
        cases a <;> first | rfl | skip
        cases b <;> first | rfl | skip
        rename_i k a k' b
        dsimp only
        split
        · cases binI o k a b <;> rfl
        · rfl
  | mx x y =>
    simp only [evo, evo2, St.a]
    cases (σ.x x).av with
    | none => rfl
    | some a =>
      cases (σ.x y).av with
      | none => cases a <;> rfl
      | some b =>
        cases a <;> first | rfl | skip
        cases b <;> first | rfl | skip
        rename_i k a k' b
        dsimp only
        by_cases e : k = k'
        · rw [if_pos e, if_pos e]; rfl
        · rw [if_neg e, if_neg e]; rfl
  | mks sz z l =>
    simp only [evo, evo2, St.a]
    cases (σ.x l).av with
    | none => rfl
    | some b =>
      cases b <;> first | rfl | skip
      dsimp only
      split <;> rfl
  | mkz sz z l =>
    simp only [evo, evo2, St.a]
    cases (σ.x l).av with
    | none => rfl
    | some b =>
      cases b <;> first | rfl | skip
      dsimp only
      split <;> rfl
  | ia n x i =>
    simp only [evo, evo2, St.a]
    cases (σ.x i).av with
    | none => rfl
    | some b =>
      cases b <;> first | rfl | skip
      cases (σ.x x).av with
      | none => rfl
      | some a =>
        cases a <;> first | rfl | skip
        · rename_i k m es
          dsimp only
          split
          · cases es[m.toNat]? with
            | none => rfl
            | some e => dsimp only; split <;> rfl
          · rfl
        · rename_i k m id ver
          dsimp only
          cases σ.h[id]? with
          | none => rfl
          | some o => cases o <;> first | rfl | (dsimp only; split <;> rfl)
  | lk ok z x i =>
    simp only [evo, evo2, St.a]
    cases (σ.x i).av with
    | none => rfl
    | some b =>
      cases b <;> first | rfl | skip
      rename_i k n
      cases (σ.x x).av with
      | none => rfl
      | some a =>
        cases a <;> first | rfl | skip
        · rename_i es
          dsimp only
          split
          · cases findI n es with
            | none => rfl
            | some r => cases r <;> rfl
          · rfl
        · rename_i id
          dsimp only
          cases σ.h[id]? with
          | none => rfl
          | some o =>
            cases o <;> first | rfl | skip
            rename_i es
            dsimp only
            split
            · cases findI n es with
              | none => rfl
              | some r => cases r <;> rfl
            · rfl
  | ins m k v =>
    simp only [evo, evo2, St.a]
    cases (σ.x m).av with
    | none => rfl
    | some a =>
      cases a <;> first | rfl | skip
      cases (σ.x k).av with
      | none => rfl
      | some b =>
        cases b <;> first | rfl | skip
        cases (σ.x v).av with
        | none => rfl
        | some c =>
          dsimp only
          rename_i id k n
          cases σ.h[id]? with
          | none => rfl
          | some o =>
            cases o <;> first | rfl | skip
            dsimp only
            split
            · rename_i es _
              cases findI n es with
              | none => rfl
              | some r => cases r <;> rfl
            · rfl
  | app sz x y =>
    simp only [evo, evo2, St.a, elems2_eq]
    cases (σ.x x).av with
    | none => rfl
    | some a =>
      cases a <;> first | rfl | skip
      cases (σ.x y).av with
      | none => rfl
      | some b =>
        dsimp only
        rename_i id ver
        cases σ.h[id]? with
        | none => rfl
        | some o =>
          cases o <;> first | rfl | skip
          cases elems2 σ.h b with
          | none => rfl
          | some fs => dsimp only; split <;> rfl
  | slc sz x lo hi =>
    simp only [evo, evo2, St.a]
    cases (σ.x x).av with
    | none => rfl
    | some a =>
      cases a <;> first | rfl | skip
      · rename_i es
        have key : ∀ (p q : Option Int), (match p, q with
            | some l, some u => if 0 ≤ l ∧ l ≤ u ∧ u ≤ es.length ∧ (∀ e ∈ es, e.length = sz) then some (TV.v (.sl ((es.take u.toNat).drop l.toNat)), σ) else none
            | _, _ => none) = Option.map (fun r : TV × Option (Bool × Nat × List AV) × List AO => (r.1, ({ σ with ls := ape r.2.1 σ.ls, h := r.2.2 } : St))) (match p, q with
            | some l, some u => if 0 ≤ l ∧ l ≤ u ∧ u ≤ es.length ∧ (∀ e ∈ es, e.length = sz) then some (TV.v (.sl ((es.take u.toNat).drop l.toNat)), none, σ.h) else none
            | _, _ => none) := by
          intro p q
          cases p with
          | none => rfl
          | some l => cases q with
            | none => rfl
            | some u => dsimp only; split <;> rfl
        exact key _ _
      · rename_i id ver
        cases lo with
        | some _ => rfl
        | none => cases hi with
          | none => rfl
          | some y =>
            dsimp only
            cases (σ.x y).av with
            | none => rfl
            | some b =>
              cases b <;> first | rfl | skip
              cases σ.h[id]? with
              | none => rfl
              | some o => cases o <;> first | rfl | (dsimp only; split <;> rfl)
  | _ => simp only [evo, evo2, as2_eq, fills2_eq, fillE2_eq, elems2_eq, St.a] <;> (repeat' split) <;> first | rfl | (simp_all [ape]; done) | skip

theorem as2_congr {X X' : AX → TV} : ∀ {l : List AX}, (∀ x ∈ l, X x = X' x) → as2 X l = as2 X' l
  | [], _ => rfl
  | x :: r, h => by simp only [as2, h x (by simp), as2_congr (l := r) fun y hy => h y (by simp [hy])]
theorem fills2_congr {X X' : AX → TV} : ∀ {l : List (Nat × Nat × AX)} {z : List AV}, (∀ x ∈ l.map (·.2.2), X x = X' x) → fills2 X z l = fills2 X' z l
  | [], _, _ => rfl
  | (off, sz, x) :: r, z, h => by
    have hr : ∀ z, fills2 X z r = fills2 X' z r := fun z => fills2_congr fun y hy => h y (by simp at hy ⊢; exact .inr hy)
    simp only [fills2, h x (by simp), hr]
theorem fillE2_congr {X X' : AX → TV} {sz : Nat} : ∀ {l : List (Nat × AX)} {z : List (List AV)}, (∀ x ∈ l.map (·.2), X x = X' x) → fillE2 X sz z l = fillE2 X' sz z l
  | [], _, _ => rfl
  | (i, x) :: r, z, h => by
    have hr : ∀ z, fillE2 X sz z r = fillE2 X' sz z r := fun z => fillE2_congr fun y hy => h y (by simp at hy ⊢; exact .inr hy)
    simp only [fillE2, h x (by simp), hr]
def AOp.alo : AOp → Bool
  | .alc _ | .alcO _ | .bx _ => true
  | _ => false
theorem evo2_congr {d : Nat} {op : AOp} {X X' : AX → TV} {L L' : Nat → Option (List AV)} {h : List AO} (hX : ∀ x ∈ op.axs, X x = X' x) (hd : op.alo = true → L d = L' d) (hL : ∀ x ∈ op.axs, ∀ k off, X x = .lp k off → L k = L' k) : evo2 d op X L h = evo2 d op X' L' h := by
  cases op with
  | bld z ps => simp only [evo2, fills2_congr hX]
  | bldO z ps => simp only [evo2]; rw [fills2_congr (z := (ownz z h).1) hX]
  | bsl a b z ps => simp only [evo2, fillE2_congr hX]
  | bslO a b z ps => simp only [evo2, fillE2_congr hX]
  | mkf f a b => simp only [evo2, as2_congr (l := a) fun x hx => hX x (by simp [AOp.axs, hx]), as2_congr (l := b) fun x hx => hX x (by simp [AOp.axs, hx])]
  | ld n ag x =>
    have h1 := hX x (by simp [AOp.axs])
    have h2 := hL x (by simp [AOp.axs])
    simp only [evo2, ← h1]
    cases hx : X x with
    | lp k off => dsimp only; rw [h2 k off hx]
    | v y => cases y <;> rfl
    | _ => rfl
  | ldl n ag x =>
    have h1 := hX x (by simp [AOp.axs])
    have h2 := hL x (by simp [AOp.axs])
    simp only [evo2, ← h1]
    cases hx : X x with
    | lp k off => dsimp only; rw [h2 k off hx]
    | _ => rfl
  | ldz n ag x =>
    have h1 := hX x (by simp [AOp.axs])
    have h2 := hL x (by simp [AOp.axs])
    simp only [evo2, ← h1]
    cases hx : X x with
    | lp k off => dsimp only; rw [h2 k off hx]
    | _ => rfl
  | st n x y =>
    have h1 := hX x (by simp [AOp.axs])
    have h2 := hL x (by simp [AOp.axs])
    have h3 := hX y (by simp [AOp.axs])
    simp only [evo2, ← h1, ← h3]
    cases (X y).av with
    | none => rfl
    | some z =>
      dsimp only
      cases z.cellsN n with
      | none => rfl
      | some cs =>
        dsimp only
        cases hx : X x with
        | lp k off => dsimp only; rw [h2 k off hx]
        | v y => cases y <;> rfl
        | _ => rfl
  | slc n x lo hi =>
    have h1 := hX x (by simp [AOp.axs])
    cases lo <;> cases hi <;> simp [AOp.axs] at hX <;> simp only [evo2, hX]
  | alc z => simp only [evo2, hd rfl]
  | alcO z => simp only [evo2, hd rfl]
  | bx x => simp [AOp.axs] at hX; simp only [evo2, hX, hd rfl]
  | _ => simp [AOp.axs] at hX <;> simp only [evo2, hX]
end Go.Ab
