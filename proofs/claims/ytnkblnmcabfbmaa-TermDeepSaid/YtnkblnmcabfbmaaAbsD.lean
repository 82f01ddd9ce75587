/- Part D: from the program's code to the small code, sizes and places worked out. Conditions: none. -/
import Derived.Test.YtnkblnmcabfbmaaAbsC
import Derived.Laws.Tables
import Derived.Great.BuildSlice
set_option linter.unusedVariables false
set_option linter.unusedSimpArgs false
namespace Go.Ab

def mapO {α β : Type} (f : α → Option β) : List α → Option (List β)
  | [] => some []
  | a :: r => match f a with
    | some b => match mapO f r with
      | some l => some (b :: l)
      | none => none
    | none => none
def zipO {α β γ : Type} (f : α → β → Option γ) : List α → List β → Option (List γ)
  | [], [] => some []
  | a :: r, b :: s => match f a b with
    | some c => match zipO f r s with
      | some l => some (c :: l)
      | none => none
    | none => none
  | _, _ => none

theorem mapO_spec {α β : Type} {f : α → Option β} : ∀ {l : List α} {r : List β}, mapO f l = some r → r.length = l.length ∧ ∀ (i : Nat) (x : α) (y : β), l[i]? = some x → r[i]? = some y → f x = some y
  | [], r, h => by simp [mapO] at h; subst h; exact ⟨rfl, fun i x y hx _ => by simp at hx⟩
  | a :: l, r, h => by
    simp only [mapO] at h
    cases hf : f a with
    | none => rw [hf] at h; cases h
    | some b =>
      rw [hf] at h
      cases hr : mapO f l with
      | none => simp only [hr] at h; cases h
      | some s =>
        simp only [hr] at h
        injection h with h
        subst h
        obtain ⟨h1, h2⟩ := mapO_spec hr
        refine ⟨by simp [h1], fun i x y hx hy => ?_⟩
        cases i with
        | zero => simp at hx hy; subst hx; subst hy; exact hf
        | succ i => simp at hx hy; exact h2 i x y hx hy
theorem zipO_spec {α β γ : Type} {f : α → β → Option γ} : ∀ {l : List α} {s : List β} {r : List γ}, zipO f l s = some r → r.length = l.length ∧ ∀ (i : Nat) (x : α) (y : γ), l[i]? = some x → r[i]? = some y → ∃ b, f x b = some y
  | [], [], r, h => by simp [zipO] at h; subst h; exact ⟨rfl, fun i x y hx _ => by simp at hx⟩
  | [], _ :: _, r, h => by simp [zipO] at h
  | _ :: _, [], r, h => by simp [zipO] at h
  | a :: l, b :: s, r, h => by
    simp only [zipO] at h
    cases hf : f a b with
    | none => rw [hf] at h; cases h
    | some c =>
      rw [hf] at h
      cases hr : zipO f l s with
      | none => simp only [hr] at h; cases h
      | some q =>
        simp only [hr] at h
        injection h with h
        subst h
        obtain ⟨h1, h2⟩ := zipO_spec hr
        refine ⟨by simp [h1], fun i x y hx hy => ?_⟩
        cases i with
        | zero => simp at hx hy; subst hx; subst hy; exact ⟨b, hf⟩
        | succ i => simp at hx hy; exact h2 i x y hx hy

def const1 : Value → Option AV
  | .bool b => some (.bool b)
  | .int k n => some (.int k n)
  | .string s => some (.str s)
  | .pointer none => some .nilp
  | .slice none 0 0 => some (.sl [])
  | .map none => some .nilm
  | .nilFunc => some .nilf
  | .nilIface => some .nili
  | .func f a b => if a.size = 0 then (if b.size = 0 then some (.fn f [] []) else none) else none
  | _ => none
def constAV : Value → Option AV
  | .agg cs => match mapO const1 cs.toList with
    | some l => some (.agg l)
    | none => none
  | v => const1 v

theorem const1_ok {v : Value} {a : AV} (h : const1 v = some a) (g : G) : RV g a v := by
  unfold const1 at h
  split at h <;> first
    | (injection h with h; subst h; constructor; done)
    | (injection h with h; subst h; exact .sl0 _ _)
    | cases h
    | (split at h
       · split at h
         · rename_i h1 h2
           injection h with h
           subst h
           exact .fn (by simp [h1]) (by simp [h2]) (fun i a v hx => by simp at hx) (fun i a v hx => by simp at hx)
         · cases h
       · cases h)
theorem const1_one {v : Value} {a : AV} (h : const1 v = some a) : a.one = true := by
  unfold const1 at h
  split at h <;> first
    | (injection h with h; subst h; rfl)
    | cases h
    | (split at h
       · split at h
         · injection h with h
           subst h
           rfl
         · cases h
       · cases h)
theorem constAV_ok {v : Value} {a : AV} (h : constAV v = some a) (g : G) : RV g a v := by
  unfold constAV at h
  split at h
  · rename_i cs
    split at h
    · rename_i l hl
      injection h with h
      subst h
      obtain ⟨h1, h2⟩ := mapO_spec hl
      exact .agg (by simpa using h1) fun i a v hx hv => const1_ok (h2 i v a (by simpa using hv) hx) g
    · cases h
  · exact const1_ok h g

section
variable (P : Program)

def szOf (t : TypeId) : Option Nat := (P.info? t).map (·.size)
def agOf (t : TypeId) : Option Bool :=
  match P.underlying t with
  | some (.struct _) | some (.array _ _) => some true
  | some _ => some false
  | none => none
def flatT : Nat → TypeId → Option (List TypeId)
  | 0, _ => none
  | d + 1, t => match P.underlying t with
    | some (.struct fs) => (mapO (fun f => flatT d f.type) fs.toList).map List.flatten
    | some (.array n e) => (flatT d e).map fun l => (List.replicate n l).flatten
    | some _ => some [t]
    | none => none
def zcell (v : Value) (t : TypeId) : Option AV :=
  match v with
  | .slice none 0 0 => match P.underlying t with
    | some (.slice e) => (szOf P e).map AV.nils
    | _ => none
  | v => const1 v
def zeroAV (t : TypeId) : Option (List AV) :=
  match P.info? t with
  | some i => match i.zero with
    | some v => match flatT P 40 t with
      | some ts => zipO (zcell P) v.cells.toList ts
      | none => none
    | none => none
  | none => none

def cx : Operand → Option AX
  | .tmp t => some (.t t)
  | .const v => (constAV v).map .c
  | .func f => some (.c (.fn (.func f) [] []))
  | .global _ => none

def isNilSlice : Operand → Bool
  | .const (.slice none 0 0) => true
  | _ => false
def sameX : Operand → Operand → Bool
  | .tmp a, .tmp b => a == b
  | .const (.int j a), .const (.int k b) => j == k && a == b
  | _, _ => false

def has (d : Option Nat) (l : List Nat) : Bool :=
  match d with
  | some d => l.contains d
  | none => false

def elemOfSlice (t : TypeId) : Option TypeId :=
  match P.underlying t with
  | some (.slice e) => some e
  | _ => none
/-- The size of a slice's elements, if they are not too great. -/
def esz (t : TypeId) : Option Nat :=
  match elemOfSlice P t with
  | some e => match P.info? e with
    | some i => match i.zero with
      | some z => if z.cells.size = i.size then (if 0 < i.size then (if i.bytes ≤ 65536 then some i.size else none) else none) else none
      | none => none
    | none => none
  | none => none

def partsS (places : List (Nat × Nat)) (ps : List (Nat × Operand)) : Option (List (Nat × Nat × AX)) :=
  mapO (fun p => match places[p.1]? with
    | some (off, sz) => match cx p.2 with
      | some x => some (off, sz, x)
      | none => none
    | none => none) ps

def cxs (l : List Operand) : Option (List AX) := mapO cx l

/-- Is the zero value a struct or an array? -/
def zeroAgg (t : TypeId) : Option Bool :=
  match P.info? t with
  | some i => match i.zero with
    | some (.agg _) => some true
    | some _ => some false
    | none => none
  | none => none

/-- One operation. 'esc': local variables whose address goes out; 'own': slices that are built up. -/
def cop (esc own : List Nat) (o : Oper) : Option AOp :=
  match o.op with
  | .move x => if has o.dst own && isNilSlice x then (esz P o.type).map .mvO else (cx x).map .mv
  | .assign x => if has o.dst own && isNilSlice x then (esz P o.type).map .mvO else (cx x).map .mv
  | .pick c a b => match cx c, cx a, cx b with
    | some c, some a, some b => some (.pick c a b)
    | _, _, _ => none
  | .alloc e => (zeroAV P e).map fun z => if has o.dst esc then (if has o.dst own then .alcHO z else .alcH z) else if has o.dst own then .alcO z else .alc z
  | .box _ x => (cx x).map fun x => if has o.dst esc then .bxH x else .bx x
  | .build t ps => match zeroAV P t, P.underlying t with
    | some z, some (.struct fs) => match mapO (fun f => (P.info? f.type).map fun i => (f.offset, i.size)) fs.toList with
      | some places => (partsS places ps.toList).map fun l => if has o.dst own then .bldO z l else .bld z l
      | none => none
    | _, _ => none
  | .buildSlice t n ps => match esz P t, elemOfSlice P t with
    | some sz, some e => match zeroAV P e, mapO (fun p => match cx p.2 with
        | some x => some (p.1, x)
        | none => none) ps.toList with
      | some z, some l => if n = 0 then none else some (if has o.dst own then .bslO sz n z l else .bsl sz n z l)
      | _, _ => none
    | _, _ => none
  | .insert t m k v | .mapUpdate t m k v => match P.underlying t with
    | some (.map kt _) => match P.underlying kt with
      | some (.int _) => match cx m, cx k, cx v with
        | some m, some k, some v => some (.ins m k v)
        | _, _, _ => none
      | _ => none
    | _ => none
  | .load t a => match szOf P t, agOf P t, cx a with
    | some n, some ag, some a => some (if has o.dst ((own.filter fun x => decide (3000000 ≤ x)).map (· - 3000000)) then .ldl n ag a else if has o.dst ((own.filter fun x => decide (4000000 ≤ x)).map (· - 4000000)) then .ldz n ag a else .ld n ag a)
    | _, _, _ => none
  | .store t a v => match szOf P t, cx a, cx v with
    | some n, some a, some v => some (.st n a v)
    | _, _, _ => none
  | .nilCheck x => (cx x).map .nilc
  | .binOp op t x y _ => match cx x, cx y with
    | some x, some y => match op, P.underlying t with
      | .eql, some .bool => some (.eqb false x y)
      | .neq, some .bool => some (.eqb true x y)
      | .shl, _ | .shr, _ => none
      | op, _ => some (.bin op x y)
    | _, _ => none
  | .unOp .not _ x => (cx x).map .not
  | .convert s d x => match P.underlying s, P.underlying d with
    | some _, some (.int k) => (cx x).map (.cv k)
    | _, _ => none
  | .fieldAddr s x f => match P.underlying s with
    | some (.struct fs) => match fs[f]? with
      | some f => match szOf P f.type with
        | some n => if n = 0 then none else (cx x).map (.fa f.offset)
        | none => none
      | none => none
    | _ => none
  | .field t x f => match P.underlying t with
    | some (.struct fs) => match fs[f]? with
      | some f => match szOf P f.type, agOf P f.type with
        | some n, some ag => (cx x).map (.fld f.offset n ag)
        | _, _ => none
      | none => none
    | _ => none
  | .indexAddr t x i => match elemOfSlice P t with
    | some e => match szOf P e, cx x, cx i with
      | some sz, some x, some i => some (.ia sz x i)
      | _, _, _ => none
    | none => none
  | .lookup t x i ok => match P.underlying t with
    | some (.map kt et) => match P.underlying kt with
      | some (.int _) => match zeroAV P et, zeroAgg P et, cx x, cx i with
        | some z, some ag, some x, some i => match ag, z with
          | true, z => some (.lk ok (.agg (noz z)) x i)
          | false, [a] => match noz [a] with
            | a :: _ => some (.lk ok a x i)
            | [] => none
          | _, _ => none
        | _, _, _, _ => none
      | _ => none
    | _ => none
  | .extract t i => (cx t).map fun x => .ext x i
  | .makeFunc fn first cap => match cxs first.toList, cxs cap.toList with
    | some a, some b => some (.mkf fn a b)
    | _, _ => none
  | .makeMap _ none => some .mkm
  | .makeSlice t l c => match sameX l c, esz P t, elemOfSlice P t, cx l with
    | true, some sz, some e, some x => (zeroAV P e).map fun z => if has o.dst own then .mks sz z x else .mkz sz z x
    | _, _, _, _ => none
  | .slice t x lo hi none => match esz P t, cx x with
    | some sz, some x => match lo, hi with
      | none, none => some (.slc sz x none none)
      | some l, none => (cx l).map fun l => .slc sz x (some l) none
      | none, some h => (cx h).map fun h => .slc sz x none (some h)
      | some l, some h => match cx l, cx h with
        | some l, some h => some (.slc sz x (some l) (some h))
        | _, _ => none
    | _, _ => none
  | .makeInterface t x => match P.underlying t with
    | some (.interface _) | none => none
    | some _ => (cx x).map (.ifc t)
  | .call c => match c.callee, c.args.toList with
    | .builtin .len, [x] => match c.argTypes.toList with
      | [t] => match P.underlying t with
        | some (.slice _) => (cx x).map .len
        | _ => none
      | _ => none
    | .builtin .append, [x, y] => match c.argTypes.toList with
      | [t, u] => if t = u then match esz P t, cx x, cx y with
        | some sz, some x, some y => some (.app sz x y)
        | _, _, _ => none
        else none
      | _ => none
    | .builtin .max, [x, y] => match cx x, cx y with
      | some x, some y => some (.mx x y)
      | _, _ => none
    | _, _ => none
  | _ => none

def guardOf (ops : Array Oper) (o : Oper) : Option (Option (Nat × Bool)) :=
  match o.guard with
  | none => some none
  | some (j, w) => match ops[j]? with
    | some p => match p.dst with
      | some d => some (some (d, w))
      | none => none
    | none => none

/-- Marks for slices that are frozen as they come. -/
def frd (own : List Nat) : List Nat := (own.filter fun x => decide (1000000 ≤ x)).map (· - 1000000)
def cak (esc own : List Nat) (o : Oper) : Option AK :=
  match o.op with
  | .panic x => (cx x).map .pan
  | .call { callee := .value f, args := l, argTypes := _ } => match cx f, cxs l.toList with
    | some f, some l => some (if has o.dst ((own.filter fun x => decide (2000000 ≤ x)).map (· - 2000000)) then .callW f l else .call f l)
    | _, _ => none
  | _ => (cop P esc own o).map fun op => if has o.dst (frd own) then .fo op else .o op
def cai (esc own : List Nat) (dr : Bool) (ops : Array Oper) (o : Oper) : Option AI :=
  match cak P esc own o, guardOf ops o with
  | some a, some g => some ⟨o.dst, a, g, if dr then (o.after.toList.filter (Region.binds .any)).map (·.on) else []⟩
  | _, _ => none
end
end Go.Ab
