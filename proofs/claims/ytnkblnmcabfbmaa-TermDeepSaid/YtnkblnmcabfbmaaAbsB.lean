/- Part B: the small code, its states, and what it does to them. Conditions: none. -/
import Derived.Test.YtnkblnmcabfbmaaAbsA
set_option linter.unusedVariables false
set_option linter.unusedSimpArgs false
namespace Go.Ab

/-- What a temporary holds: a value; the address of a local variable; of cells that are never written again; of a cell in a list of one's own. -/
inductive TV where
  | v (a : AV)
  | lp (d off : Nat)
  | ep (cs : List AV)
  | op (id ver sz i off : Nat)
  | junk
  | und
  deriving Inhabited

/-- Temporaries: how many there are, and what is known of them; the last one told counts. -/
structure Ts where
  n : Nat
  l : List (Nat × TV)
def tg (i : Nat) : List (Nat × TV) → TV
  | [] => .junk
  | (k, x) :: r => match k == i with
    | true => x
    | false => tg i r
theorem tg_cons (i k : Nat) (x : TV) (r : List (Nat × TV)) : tg i ((k, x) :: r) = if k = i then x else tg i r := by
  rw [tg]
  by_cases e : k = i
  · simp [e]
  · rw [if_neg e, show (k == i) = false from by simp [e]]
def Ts.set (t : Ts) (i : Nat) (x : TV) : Ts := if i < t.n then ⟨t.n, (i, x) :: t.l⟩ else t

structure St where
  t : Ts
  ls : List (Nat × List AV)
  h : List AO
  ds : List Nat := []

inductive AX where
  | t (i : Nat)
  | c (a : AV)

inductive AOp where
  | mv (x : AX)
  | mvO (sz : Nat)
  | pick (c a b : AX)
  | alc (z : List AV)
  | alcO (z : List AV)
  | alcH (z : List AV)
  | alcHO (z : List AV)
  | bx (x : AX)
  | bxH (x : AX)
  | bld (z : List AV) (ps : List (Nat × Nat × AX))
  | bldO (z : List AV) (ps : List (Nat × Nat × AX))
  | bsl (sz n : Nat) (z : List AV) (ps : List (Nat × AX))
  | bslO (sz n : Nat) (z : List AV) (ps : List (Nat × AX))
  | ld (n : Nat) (ag : Bool) (a : AX)
  | ldl (n : Nat) (ag : Bool) (a : AX)
  | ldz (n : Nat) (ag : Bool) (a : AX)
  | st (n : Nat) (a x : AX)
  | nilc (x : AX)
  | bin (op : BinOp) (x y : AX)
  | eqb (neg : Bool) (x y : AX)
  | not (x : AX)
  | cv (k : IntKind) (x : AX)
  | fa (off : Nat) (x : AX)
  | fld (off n : Nat) (ag : Bool) (x : AX)
  | ia (sz : Nat) (x i : AX)
  | lk (ok : Bool) (z : AV) (x i : AX)
  | ins (m k v : AX)
  | ext (x : AX) (i : Nat)
  | len (x : AX)
  | app (sz : Nat) (x y : AX)
  | mx (x y : AX)
  | mkf (f : Fn) (first cap : List AX)
  | mkm
  | mks (sz : Nat) (z : List AV) (l : AX)
  | mkz (sz : Nat) (z : List AV) (l : AX)
  | slc (sz : Nat) (x : AX) (lo hi : Option AX)
  | ifc (t : TypeId) (x : AX)

inductive AK where
  | o (op : AOp)
  | fo (op : AOp)
  | call (f : AX) (args : List AX)
  | callW (f : AX) (args : List AX)
  | pan (x : AX)

structure AI where
  d : Option Nat
  k : AK
  g : Option (Nat × Bool)
  af : List Nat

inductive AC where
  | skip
  | reg (is : List AI)
  | dreg (is : List AI)
  | seq (a b : AC)
  | cond (x : AX) (a b : AC)
  | block (id : Nat) (c : AC)
  | loop (c : AC)
  | rf (f : AX) (ps : List Nat) (asg body : AC)
  | exit (id : Nat)
  | ret

inductive Out where
  | normal
  | exit (id : Nat)
  | ret
  | pan (v : AV)

inductive Res where
  | ret (v : AV)
  | pan (v : AV)

def St.x (σ : St) : AX → TV
  | .t i => tg i σ.t.l
  | .c a => .v a
def TV.av : TV → Option AV
  | .v a => some a
  | _ => none
def St.a (σ : St) (x : AX) : Option AV := (σ.x x).av
def St.as (σ : St) : List AX → Option (List AV)
  | [] => some []
  | x :: r => match σ.a x with
    | some a => match σ.as r with
      | some l => some (a :: l)
      | none => none
    | none => none
def St.put (σ : St) (d : Option Nat) (x : TV) : St :=
  match d with
  | some d => { σ with t := σ.t.set d x }
  | none => σ

def look (d : Nat) : List (Nat × List AV) → Option (List AV)
  | [] => none
  | (k, c) :: r => if k = d then some c else look d r
def put (d : Nat) (c : List AV) : List (Nat × List AV) → List (Nat × List AV)
  | [] => []
  | (k, x) :: r => if k = d then (k, c) :: r else (k, x) :: put d c r

/-- Cells over others. -/
def over {α : Type} : List α → Nat → List α → List α
  | cs, _, [] => cs
  | cs, off, a :: as => over (cs.set off a) (off + 1) as

def rd (n : Nat) (ag : Bool) (cs : List AV) : Option TV :=
  if n ≤ cs.length then
    match ag with
    | true => some (.v (.agg (cs.take n)))
    | false => match cs with
      | a :: _ => some (.v a)
      | [] => none
  else none

def AV.cellsN (n : Nat) (a : AV) : Option (List AV) :=
  if a.cells.length = n then (if a.cells.all AV.one then some a.cells else none) else none

/-- The nil slices of a zero value become lists of one's own. -/
def ownz : List AV → List AO → List AV × List AO
  | [], h => ([], h)
  | .nils sz :: r, h => match ownz r (h ++ [.lst 0 sz []]) with
    | (cs, h') => (.ol h.length 0 :: cs, h')
  | a :: r, h => match ownz r h with
    | (cs, h') => (a :: cs, h')
def noz : List AV → List AV
  | [] => []
  | .nils _ :: r => .sl [] :: noz r
  | a :: r => a :: noz r

def fills (σ : St) : List AV → List (Nat × Nat × AX) → Option (List AV)
  | z, [] => some z
  | z, (off, sz, x) :: r => match σ.a x with
    | some a => match a.cellsN sz with
      | some cs => if off + sz ≤ z.length then fills σ (over z off cs) r else none
      | none => none
    | none => none
def fillE (σ : St) (sz : Nat) : List (List AV) → List (Nat × AX) → Option (List (List AV))
  | z, [] => some z
  | z, (i, x) :: r => match σ.a x with
    | some a => match a.cellsN sz with
      | some cs => if i < z.length then fillE σ sz (z.set i cs) r else none
      | none => none
    | none => none

def binI (op : BinOp) (k : IntKind) (a b : Int) : Option AV :=
  match op with
  | .add => some (.int k (k.wrap (a + b)))
  | .sub => some (.int k (k.wrap (a - b)))
  | .mul => some (.int k (k.wrap (a * b)))
  | .quo => if b = 0 then none else some (.int k (k.wrap (a.tdiv b)))
  | .rem => if b = 0 then none else some (.int k (a.tmod b))
  | .eql => some (.bool (decide (a = b)))
  | .neq => some (.bool (!decide (a = b)))
  | .lss => some (.bool (decide (a < b)))
  | .leq => some (.bool (decide (a ≤ b)))
  | .gtr => some (.bool (decide (b < a)))
  | .geq => some (.bool (decide (b ≤ a)))
  | _ => none

/-- Keys that are whole numbers. -/
def findI (n : Int) : List (AV × AV) → Option (Option AV)
  | [] => some none
  | (.int _ m, v) :: r => if n = m then some (some v) else findI n r
  | _ => none
def keysI (k : IntKind) : List (AV × AV) → Bool
  | [] => true
  | (.int k' _, _) :: r => (if k = k' then keysI k r else false)
  | _ => false

def elems (σ : St) : AV → Option (List (List AV))
  | .sl es => some es
  | .nils _ => some []
  | .ol id ver => match σ.h[id]? with
    | some (.lst v _ es) => if v = ver then some es else none
    | _ => none
  | _ => none

/-- Lists of one's own, numbered n and above, are never written again from here on. -/
def frz0 (n : Nat) : AV → List AO → AV × List AO
  | .ol id ver, h => if n ≤ id then match h[id]? with
      | some (.lst v _ es) => if v = ver then (.sl es, h.set id .dead) else (.ol id ver, h)
      | _ => (.ol id ver, h)
    else (.ol id ver, h)
  | .mp id, h => if n ≤ id then match h[id]? with
      | some (.mapo es) => (.fmap es, h.set id .dead)
      | _ => (.mp id, h)
    else (.mp id, h)
  | a, h => (a, h)
def frzC (n : Nat) : List AV → List AO → List AV × List AO
  | [], h => ([], h)
  | a :: r, h => match frz0 n a h with
    | (a', h1) => match frzC n r h1 with
      | (r', h2) => (a' :: r', h2)
def frz1 (n : Nat) : AV → List AO → AV × List AO
  | .agg cs, h => match frzC n cs h with
    | (cs', h') => (.agg cs', h')
  | a, h => frz0 n a h
def frzL (n : Nat) : List AV → List AO → List AV × List AO
  | [], h => ([], h)
  | a :: r, h => match frz1 n a h with
    | (a', h1) => match frzL n r h1 with
      | (r', h2) => (a' :: r', h2)

def evo (d : Nat) (o : AOp) (σ : St) : Option (TV × St) :=
  match o with
  | .mv x => some (σ.x x, σ)
  | .mvO sz => some (.v (.ol σ.h.length 0), { σ with h := σ.h ++ [.lst 0 sz []] })
  | .pick c a b => match σ.a c with
    | some (.bool p) => match p with
      | true => some (σ.x a, σ)
      | false => some (σ.x b, σ)
    | _ => none
  | .alc z => match look d σ.ls with
    | none => some (.lp d 0, { σ with ls := (d, noz z) :: σ.ls })
    | some _ => none
  | .alcO z => match look d σ.ls with
    | none => match ownz z σ.h with
      | (cs, h) => some (.lp d 0, { σ with ls := (d, cs) :: σ.ls, h := h })
    | some _ => none
  | .alcH z => some (.v (.ptr σ.h.length 0), { σ with h := σ.h ++ [.box (noz z)] })
  | .alcHO z => match ownz z σ.h with
    | (cs, h) => some (.v (.ptr h.length 0), { σ with h := h ++ [.box cs] })
  | .bx x => match look d σ.ls with
    | none => match σ.a x with
      | some a => match a.cellsN a.cells.length with
        | some cs => some (.lp d 0, { σ with ls := (d, cs) :: σ.ls })
        | none => none
      | none => none
    | some _ => none
  | .bxH x => match σ.a x with
    | some a => match a.cellsN a.cells.length with
      | some cs => some (.v (.ptr σ.h.length 0), { σ with h := σ.h ++ [.box cs] })
      | none => none
    | none => none
  | .bld z ps => match fills σ (noz z) ps with
    | some cs => some (.v (.agg cs), σ)
    | none => none
  | .bldO z ps => match ownz z σ.h with
    | (cs, h) => match fills σ cs ps with
      | some cs => some (.v (.agg cs), { σ with h := h })
      | none => none
  | .bsl sz n z ps => match fillE σ sz (List.replicate n (noz z)) ps with
    | some es => if (noz z).length = sz ∧ 0 < sz ∧ n ≤ 1024 ∧ sz ≤ 1024 then some (.v (.sl es), σ) else none
    | none => none
  | .bslO sz n z ps => match fillE σ sz (List.replicate n (noz z)) ps with
    | some es => if (noz z).length = sz ∧ 0 < sz ∧ n ≤ 1024 ∧ sz ≤ 1024 then some (.v (.ol σ.h.length 0), { σ with h := σ.h ++ [.lst 0 sz es] }) else none
    | none => none
  | .ld n ag a => match σ.x a with
    | .lp k off => match look k σ.ls with
      | some cs => match rd n ag (cs.drop off) with
        | some x => some (x, σ)
        | none => none
      | none => none
    | .ep cs => match rd n ag cs with
      | some x => some (x, σ)
      | none => none
    | .v (.ptr id off) => match σ.h[id]? with
      | some (.box cs) => match rd n ag (cs.drop off) with
        | some x => some (x, σ)
        | none => none
      | _ => none
    | .op id ver sz i off => match σ.h[id]? with
      | some (.lst v sz' es) => if v = ver ∧ sz' = sz then match es[i]? with
        | some e => match rd n ag (e.drop off) with
          | some x => some (x, σ)
          | none => none
        | none => none
        else none
      | _ => none
    | _ => none
  | .ldl n ag a => match σ.x a with
    | .lp k off => match look k σ.ls with
      | some cs => match rd n ag (cs.drop off) with
        | some x => some (x, σ)
        | none => none
      | none => none
    | _ => none
  | .ldz n ag a => match σ.x a with
    | .lp k off => match look k σ.ls with
      | some cs => match frzC 0 cs σ.h with
        | (cs', h') => match rd n ag (cs'.drop off) with
          | some x => some (x, { σ with ls := put k cs' σ.ls, h := h' })
          | none => none
      | none => none
    | _ => none
  | .st n a x => match σ.a x with
    | some y => match y.cellsN n with
      | some cs => match σ.x a with
        | .lp k off => match look k σ.ls with
          | some c0 => if off + n ≤ c0.length then some (.junk, { σ with ls := put k (over c0 off cs) σ.ls }) else none
          | none => none
        | .v (.ptr id off) => match σ.h[id]? with
          | some (.box c0) => if off + n ≤ c0.length then some (.junk, { σ with h := σ.h.set id (.box (over c0 off cs)) }) else none
          | _ => none
        | .op id ver sz i off => match σ.h[id]? with
          | some (.lst v sz' es) => if v = ver ∧ sz' = sz then match es[i]? with
            | some e => if off + n ≤ e.length then some (.junk, { σ with h := σ.h.set id (.lst v sz (es.set i (over e off cs))) }) else none
            | none => none
            else none
          | _ => none
        | _ => none
      | none => none
    | none => none
  | .nilc x => match σ.x x with
    | .v (.ptr id off) => some (.v (.ptr id off), σ)
    | .lp k off => some (.lp k off, σ)
    | .v (.fn f a c) => match f with
      | .method _ => none
      | f => some (.v (.fn f a c), σ)
    | _ => none
  | .bin op x y => match σ.a x, σ.a y with
    | some (.int k a), some (.int k' b) => if k = k' then match binI op k a b with
      | some r => some (.v r, σ)
      | none => none
      else none
    | _, _ => none
  | .eqb neg x y => match σ.a x, σ.a y with
    | some (.bool a), some (.bool b) => some (.v (.bool (if neg then !(a == b) else a == b)), σ)
    | _, _ => none
  | .not x => match σ.a x with
    | some (.bool b) => some (.v (.bool (!b)), σ)
    | _ => none
  | .cv k x => match σ.a x with
    | some (.int _ n) => some (.v (.int k (k.wrap n)), σ)
    | _ => none
  | .fa off x => match σ.x x with
    | .lp k o => some (.lp k (o + off), σ)
    | .ep cs => some (.ep (cs.drop off), σ)
    | .v (.ptr id o) => some (.v (.ptr id (o + off)), σ)
    | .op id ver sz i o => some (.op id ver sz i (o + off), σ)
    | _ => none
  | .fld off n ag x => match σ.a x with
    | some (.agg cs) => match rd n ag (cs.drop off) with
      | some r => some (r, σ)
      | none => none
    | _ => none
  | .ia sz x i => match σ.a i with
    | some (.int _ n) => match σ.a x with
      | some (.sl es) => if 0 ≤ n then match es[n.toNat]? with
        | some e => if e.length = sz then some (.ep e, σ) else none
        | none => none
        else none
      | some (.ol id ver) => match σ.h[id]? with
        | some (.lst v sz' es) => if v = ver ∧ sz' = sz ∧ 0 ≤ n ∧ n.toNat < es.length then some (.op id ver sz n.toNat 0, σ) else none
        | _ => none
      | _ => none
    | _ => none
  | .lk ok z x i => match σ.a i with
    | some (.int k n) => match (match σ.a x with
        | some (.fmap es) => some es
        | some (.mp id) => match σ.h[id]? with
          | some (.mapo es) => some es
          | _ => none
        | _ => none) with
      | some es => if keysI k es then match findI n es with
        | some (some v) => some (.v (if ok then .tup [v, .bool true] else v), σ)
        | some none => some (.v (if ok then .tup [z, .bool false] else z), σ)
        | none => none
        else none
      | none => none
    | _ => none
  | .ins m k v => match σ.a m, σ.a k, σ.a v with
    | some (.mp id), some (.int k n), some y => match σ.h[id]? with
      | some (.mapo es) => if keysI k es then match findI n es with
        | some none => some (.junk, { σ with h := σ.h.set id (.mapo (es ++ [(.int k n, y)])) })
        | _ => none
        else none
      | _ => none
    | _, _, _ => none
  | .ext x i => match σ.a x with
    | some (.tup vs) => match vs[i]? with
      | some a => some (.v a, σ)
      | none => none
    | _ => none
  | .len x => match σ.a x with
    | some a => match elems σ a with
      | some es => some (.v (.int .i64 (es.length : Int)), σ)
      | none => none
    | none => none
  | .app sz x y => match σ.a x, σ.a y with
    | some (.ol id ver), some b => match σ.h[id]?, elems σ b with
      | some (.lst v sz' es), some fs =>
        if v = ver ∧ sz' = sz ∧ 0 < sz ∧ sz ≤ 1024 ∧ es.length + fs.length ≤ 1073741824 ∧ (∀ e ∈ fs, e.length = sz) then
          some (.v (.ol id (ver + 1)), { σ with h := σ.h.set id (.lst (ver + 1) sz (es ++ fs)) }) else none
      | _, _ => none
    | _, _ => none
  | .mx x y => match σ.a x, σ.a y with
    | some (.int k a), some (.int k' b) => if k = k' then some (.v (.int k (if b > a then b else a)), σ) else none
    | _, _ => none
  | .mkf f first cap => match σ.as first, σ.as cap with
    | some a, some b => some (.v (.fn f a b), σ)
    | _, _ => none
  | .mkm => some (.v (.mp σ.h.length), { σ with h := σ.h ++ [.mapo []] })
  | .mks sz z l => match σ.a l with
    | some (.int _ n) => if 0 ≤ n ∧ n ≤ 1073741824 ∧ (noz z).length = sz ∧ 0 < sz ∧ sz ≤ 1024 then
        some (.v (.ol σ.h.length 0), { σ with h := σ.h ++ [.lst 0 sz (List.replicate n.toNat (noz z))] }) else none
    | _ => none
  | .mkz sz z l => match σ.a l with
    | some (.int _ n) => if 0 ≤ n ∧ n ≤ 1073741824 ∧ (noz z).length = sz ∧ 0 < sz ∧ sz ≤ 1024 then
        some (.v (.sl (List.replicate n.toNat (noz z))), σ) else none
    | _ => none
  | .slc sz x lo hi => match σ.a x with
    | some (.sl es) => match (match lo with | none => some (0 : Int) | some y => match σ.a y with | some (.int _ n) => some n | _ => none),
          (match hi with | none => some (es.length : Int) | some y => match σ.a y with | some (.int _ n) => some n | _ => none) with
      | some l, some h => if 0 ≤ l ∧ l ≤ h ∧ h ≤ es.length ∧ (∀ e ∈ es, e.length = sz) then some (.v (.sl ((es.take h.toNat).drop l.toNat)), σ) else none
      | _, _ => none
    | some (.ol id ver) => match lo, hi with
      | none, some y => match σ.a y, σ.h[id]? with
        | some (.int _ n), some (.lst v sz' es) => if v = ver ∧ sz' = sz ∧ 0 < sz ∧ 0 ≤ n ∧ n ≤ es.length then
            some (.v (.ol id (ver + 1)), { σ with h := σ.h.set id (.lst (ver + 1) sz (es.take n.toNat)) }) else none
        | _, _ => none
      | _, _ => none
    | _ => none
  | .ifc t x => match σ.a x with
    | some a => some (.v (.iface t a), σ)
    | none => none

/-- What stands behind a call. -/
def kont (k : St → Prop) (Q : Out → St → Prop) (d : Option Nat) (σ : St) : Res → List AO → Prop
  | .ret v, h => k ({ σ with h := h }.put d (.v v))
  | .pan v, h => Q (.pan v) { σ with h := h }

abbrev CallP := AV → List AV → List AO → (Res → List AO → Prop) → Prop

def runI (CC : CallP) (i : AI) (k : St → Prop) (Q : Out → St → Prop) (σ : St) : Prop :=
  match i.k with
  | .call f args | .callW f args => match σ.a f, σ.as args with
    | some c, some as => CC c as σ.h (kont k Q i.d σ)
    | _, _ => False
  | .pan x => match σ.a x with
    | some (.iface t v) => Q (.pan (.iface t v)) σ
    | _ => False
  | .o op => match evo (i.d.getD 0) op σ with
    | some (x, σ') => k (σ'.put i.d x)
    | none => False
  | .fo op => match evo (i.d.getD 0) op σ with
    | some (.v a, σ') => match frz1 0 a σ'.h with
      | (a', h') => k ({ σ' with h := h' }.put i.d (.v a'))
    | _ => False

/-- A region in the order of its text. -/
def awr (CC : CallP) : List AI → (Out → St → Prop) → St → Prop
  | [], Q, σ => Q .normal σ
  | i :: r, Q, σ =>
    match i.g with
    | none => runI CC i (awr CC r Q) Q σ
    | some (j, w) => match tg j σ.t.l with
      | .v (.bool b) => if b = w then runI CC i (awr CC r Q) Q { σ with t := σ.t.set j (.v (.bool w)) } else awr CC r Q ({ σ with t := σ.t.set j (.v (.bool (!w))) }.put i.d .und)
      | .und => awr CC r Q (σ.put i.d .und)
      | _ => False

/-- One operation, its guard looked at. -/
def runG (CC : CallP) (i : AI) (k : St → Prop) (Q : Out → St → Prop) (σ : St) : Prop :=
  match i.g with
  | none => runI CC i k Q σ
  | some (j, w) => match tg j σ.t.l with
    | .v (.bool b) => if b = w then runI CC i k Q { σ with t := σ.t.set j (.v (.bool w)) } else k ({ σ with t := σ.t.set j (.v (.bool (!w))) }.put i.d .und)
    | .und => k (σ.put i.d .und)
    | _ => False

/-- What may come up now. -/
def rdy (is : List AI) (listed : Array Bool) : List Nat :=
  (List.range is.length).filter fun i => !listed.getD i true && ((is[i]?).map (·.af.all fun j => listed.getD j false)).getD false

/-- The one outcome of an operation; a plain call leaves memory as it was. -/
def stepK (CC : CallP) (i : AI) (σ σ' : St) : Prop :=
  match i.k with
  | .o op => ∃ x σ1, evo (i.d.getD 0) op σ = some (x, σ1) ∧ σ' = σ1.put i.d x
  | .call f args => ∃ c as v, σ.a f = some c ∧ σ.as args = some as ∧ CC c as σ.h (fun r h' => r = .ret v ∧ h' = σ.h) ∧ σ' = σ.put i.d (.v v)
  | .callW f args => ∃ c as v h, σ.a f = some c ∧ σ.as args = some as ∧ CC c as σ.h (fun r h' => r = .ret v ∧ h' = h) ∧ σ' = { σ with h := h }.put i.d (.v v)
  | _ => False
def stepG (CC : CallP) (i : AI) (σ σ' : St) : Prop :=
  match i.g with
  | none => stepK CC i σ σ'
  | some (j, w) => (tg j σ.t.l = .v (.bool w) ∧ stepK CC i σ σ') ∨ ((tg j σ.t.l = .v (.bool (!w)) ∨ tg j σ.t.l = .und) ∧ σ' = σ.put i.d .und)

/-- The same, but for the order in which it is told. -/
structure Eqv (σ τ : St) : Prop where
  n : σ.t.n = τ.t.n
  t : ∀ i, tg i σ.t.l = tg i τ.t.l
  ls : ∀ k, look k σ.ls = look k τ.ls
  h : σ.h = τ.h
  ds : σ.ds = τ.ds
def LiveS (σ : St) : Prop := ∀ i k off, tg i σ.t.l = .lp k off → look k σ.ls ≠ none

/-- A region whose order is open. -/
def awAny (CC : CallP) (is : List AI) (Q : St → Prop) : Nat → Array Bool → St → Prop
  | 0, l, σ => rdy is l = [] ∧ ∃ τ, Eqv σ τ ∧ Q τ
  | n + 1, l, σ => (rdy is l = [] → ∃ τ, Eqv σ τ ∧ Q τ) ∧ ∀ i ∈ rdy is l, ∀ o, is[i]? = some o → ∃ σ', stepG CC o σ σ' ∧ awAny CC is Q n (l.setIfInBounds i true) σ'
end Go.Ab
