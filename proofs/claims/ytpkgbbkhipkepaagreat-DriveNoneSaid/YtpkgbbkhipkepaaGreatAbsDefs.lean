/-
  AN ABSTRACT MACHINE over the model's code: values are trees (slices by value), a heap only for what is changed. Definitions alone.
-/
import GoSem.Core.Code
import GoSem.Core.World
import GoSem.Dispatch
import GoSem.Machine.Frame
namespace Go.Abs

/-- The right to append in place: none; 'full' (capacity = length: an append always makes a new row); 'lit' (full, and nobody will ever write its block); a token that is spent once. -/
inductive Tk where
  | no
  | full
  | lit
  | t (o : Nat)
  deriving DecidableEq, Repr, Inhabited

/-- Abstract values. -/
inductive AV where
  | lit (v : Value)
  | ptr (o g k : Nat)
  | ip (cs : List AV)
  | sl (t : Tk) (sz : Nat) (xs : List AV)
  | rs (o g sz off len : Nat)
  | mp (o : Nat)
  | yld (o : Nat)
  | itr (o : Nat)
  | dp (o : Nat) (cs : List AV)
  | fn (f : FuncId) (first captured : List AV)
  | ifc (t : TypeId) (v : AV)
  | agg (cs : List AV)
  | tup (vs : List AV)
  deriving Inhabited

/-- The cells of a value. -/
def AV.cells : AV → List AV
  | .agg cs => cs
  | v => [v]

def flat (xs : List AV) : List AV := xs.flatMap AV.cells

abbrev AV.int (k : IntKind) (n : Int) : AV := .lit (.int k n)
abbrev AV.bool (b : Bool) : AV := .lit (.bool b)
abbrev AV.str (s : ByteArray) : AV := .lit (.string s)
abbrev AV.nilSl : AV := .lit (.slice none 0 0)
abbrev AV.nilP : AV := .lit (.pointer none)
abbrev AV.und : AV := .lit undef

/-- A value that leads nowhere. -/
def closedV : Value → Bool
  | .bool _ | .int _ _ | .float _ _ | .complex _ _ _ | .string _ | .pointer none | .slice none _ _ | .map none | .chan none | .nilFunc | .nilIface => true
  | .tuple vs => vs.size == 0
  | _ => false

/-- Which comparison. -/
inductive EK where
  | prim
  | bool
  | slice
  | map
  | ptr
  | iface
  | fnk
  | flat (n : Nat)
  deriving DecidableEq, Repr, Inhabited

/-- Operations, their types looked up. -/
inductive AOp where
  | move (x : Operand)
  | pick (c a b : Operand)
  | alloc (ty : TypeId) (zero : List AV)
  | box (ty : TypeId) (x : Operand)
  | build (zero : List AV) (parts : List (Nat × Nat × Operand))
  | bslice (ref : Bool) (ty : TypeId) (sz : Nat) (len : Nat) (zero : List AV) (parts : List (Nat × Operand))
  | load (n : Option Nat) (a : Operand)
  | store (fz : Bool) (n : Nat) (a x : Operand)
  | nilCheck (x : Operand)
  | bin (op : BinOp) (e : EK) (x y : Operand)
  | un (op : UnOp) (x : Operand)
  | convInt (k : IntKind) (x : Operand)
  | convId (x : Operand)
  | convBS (x : Operand)
  | convSame (x : Operand)
  | convSB (ty : TypeId) (x : Operand)
  | convUP (ty : TypeId) (sz : Nat) (x : Operand)
  | mkIface (t : TypeId) (x : Operand)
  | mkFunc (f : FuncId) (first captured : List Operand)
  | mkMap
  | mkSlice (ty : TypeId) (sz : Nat) (bytes : Nat) (zero : List AV) (len cap : Operand)
  | slice (k : Option Nat) (x : Operand) (lo hi mx : Option Operand)
  | fieldAddr (off : Nat) (x : Operand)
  | field (n : Option Nat) (off : Nat) (x : Operand)
  | indexAddr (sz : Nat) (x i : Operand)
  | index (x i : Operand)
  | lookup (kk : Nat) (zero : AV) (ok : Bool) (x i : Operand)
  | mapUpdate (kk : Nat) (m k x : Operand)
  | range (str : Bool) (x : Operand)
  | next (x : Operand)
  | extract (i : Nat) (x : Operand)
  | typeIs (t : TypeId) (ok : Bool) (zero : AV) (x : Operand)
  | len (k : Nat) (x : Operand)
  | capn (x : Operand)
  | append (ref : Bool) (fz : Bool) (ty : TypeId) (sz bytes : Nat) (x y : Operand)
  | appendZ (ty : TypeId) (sz bytes : Nat) (zero : List AV) (x n : Operand)
  | copy (sz : Nat) (x y : Operand)
  | clear (sz : Nat) (zero : List AV) (x : Operand)
  | min (xs : List Operand)
  | max (xs : List Operand)
  | usData (x : Operand)
  | usString (ty : TypeId) (p n : Operand)
  | noEscape (x : Operand)
  | recover
  | call (f : Operand) (args : List Operand)
  | defer (f : Operand) (args : List Operand)
  | bad
  deriving Inhabited

structure AOper where
  dst : Option Tmp
  op : AOp
  guard : Option (Nat × Bool)
  idx : Nat := 0      -- its number in the region
  back : Nat := 0     -- over how many of the chain's operations it may move to the front
  deriving Inhabited

/-- Code, its operations looked up. -/
inductive ACode where
  | skip
  | region (id : Nat) (ops : List AOper) (draw : Bool)
  | seq (a b : ACode)
  | cond (c : Operand) (thn els : ACode)
  | block (id : Nat) (body : ACode)
  | loop (body : ACode)
  | rangeFunc (f : Operand) (params : List Tmp) (assign body : ACode)
  | exit (id : Nat)
  | scope (body : ACode)
  | label (l : Nat)
  | goto (l : Nat)
  | ret
  | refuse
  deriving Inhabited

/-- What the heap holds. -/
inductive AObj where
  | cells (ty : TypeId) (g fz : Nat) (cs : List AV)
  | tok (ty : TypeId) (e : Option Nat)
  | map (es : List (AV × AV × Nat)) (clock : Nat)
  | iter (s : ByteArray) (pos : Nat)
  | loop (state : LoopState) (pending : Option ACode) (f : FuncId) (tmps : List AV) (params : List Tmp) (assign body : ACode)
  | dfr
  | dead
  deriving Inhabited

/-- A tree of objects by number: 0 at the root, odd numbers at the left, even ones at the right. -/
inductive Tr where
  | leaf
  | node (l : Tr) (v : Option AObj) (r : Tr)
  deriving Inhabited

def Tr.get : Tr → Nat → Option AObj
  | .leaf, _ => none
  | .node l v r, i => if i = 0 then v else if i % 2 = 1 then l.get (i / 2) else r.get (i / 2 - 1)

def Tr.setF : Nat → Tr → Nat → AObj → Tr
  | 0, t, _, _ => t
  | n + 1, .leaf, i, o => if i = 0 then .node .leaf (some o) .leaf else if i % 2 = 1 then .node (Tr.setF n .leaf (i / 2) o) none .leaf else .node .leaf none (Tr.setF n .leaf (i / 2 - 1) o)
  | n + 1, .node l v r, i, o => if i = 0 then .node l (some o) r else if i % 2 = 1 then .node (Tr.setF n l (i / 2) o) v r else .node l v (Tr.setF n r (i / 2 - 1) o)

def Tr.set (t : Tr) (i : Nat) (o : AObj) : Tr := Tr.setF (i + 1) t i o

theorem Tr.get_setF : ∀ (n : Nat) (t : Tr) (i j : Nat) (o : AObj), i < n → (Tr.setF n t i o).get j = if j = i then some o else t.get j := by
  intro n
  induction n with
  | zero => intro t i j o h; omega
  | succ n ih =>
    intro t i j o h
    cases t with
    | leaf =>
      simp only [Tr.setF]
      by_cases h0 : i = 0
      · subst h0; by_cases hj : j = 0
        · simp [Tr.get, hj]
        · simp [Tr.get, hj]
      · by_cases h1 : i % 2 = 1
        · simp only [h0, h1, if_true, if_false, Tr.get]
          rw [ih _ _ _ _ (by omega)]
          by_cases hj : j = 0
          · subst hj; simp; omega
          · by_cases hj1 : j % 2 = 1
            · have : (j / 2 = i / 2) ↔ j = i := by omega
              simp [hj, hj1, this, Tr.get]
            · have : j ≠ i := by intro e; subst e; exact hj1 h1
              simp [hj, hj1, this]
        · simp only [h0, h1, if_false, Tr.get]
          rw [ih _ _ _ _ (by omega)]
          by_cases hj : j = 0
          · subst hj; simp; omega
          · by_cases hj1 : j % 2 = 1
            · have : j ≠ i := by intro e; subst e; exact h1 hj1
              simp [hj, hj1, this]
            · have : (j / 2 - 1 = i / 2 - 1) ↔ j = i := by omega
              simp [hj, hj1, this, Tr.get]
    | node l v r =>
      simp only [Tr.setF]
      by_cases h0 : i = 0
      · subst h0; by_cases hj : j = 0
        · simp [Tr.get, hj]
        · simp [Tr.get, hj]
      · by_cases h1 : i % 2 = 1
        · simp only [h0, h1, if_true, if_false, Tr.get]
          rw [ih _ _ _ _ (by omega)]
          by_cases hj : j = 0
          · subst hj; simp; omega
          · by_cases hj1 : j % 2 = 1
            · have : (j / 2 = i / 2) ↔ j = i := by omega
              simp [hj, hj1, this]
            · have : j ≠ i := by intro e; subst e; exact hj1 h1
              simp [hj, hj1, this]
        · simp only [h0, h1, if_false, Tr.get]
          rw [ih _ _ _ _ (by omega)]
          by_cases hj : j = 0
          · subst hj; simp; omega
          · by_cases hj1 : j % 2 = 1
            · have : j ≠ i := by intro e; subst e; exact h1 hj1
              simp [hj, hj1, this]
            · have : (j / 2 - 1 = i / 2 - 1) ↔ j = i := by omega
              simp [hj, hj1, this]

theorem Tr.get_set (t : Tr) (i j : Nat) (o : AObj) : (t.set i o).get j = if j = i then some o else t.get j := Tr.get_setF _ _ _ _ _ (by omega)

/-- The heap. -/
structure AH where
  n : Nat
  t : Tr
  deriving Inhabited

def AH.get (H : AH) (o : Nat) : Option AObj := H.t.get o
def AH.set (H : AH) (o : Nat) (x : AObj) : AH := { H with t := H.t.set o x }
def AH.push (H : AH) (x : AObj) : AH := { n := H.n + 1, t := H.t.set H.n x }
def AH.empty : AH := ⟨0, .leaf⟩

@[simp] theorem AH.n_set (H : AH) (o : Nat) (x : AObj) : (H.set o x).n = H.n := rfl
@[simp] theorem AH.n_push (H : AH) (x : AObj) : (H.push x).n = H.n + 1 := rfl
theorem AH.get_set (H : AH) (o j : Nat) (x : AObj) : (H.set o x).get j = if j = o then some x else H.get j := by
  unfold AH.get AH.set
  simp only [Tr.get_set]
theorem AH.get_push (H : AH) (j : Nat) (x : AObj) : (H.push x).get j = if j = H.n then some x else H.get j := by
  unfold AH.get AH.push
  simp only [Tr.get_set]

end Go.Abs
