/-
  OPERATIONS AND CODE, THEIR TYPES LOOKED UP: 'prepOp', 'prepCode'.
-/
import Derived.Test.YtpkgbbkhipkepaaGreatAbsOps
namespace Go.Abs

def okO : Operand → Bool
  | .const v => closedV v
  | .global _ => false
  | _ => true

def opt (b : Bool) (x : AOp) : Option AOp := if b then some x else none

/-- How a variable of a type is loaded. -/
def aggN (P : Program) (t : TypeId) : Option (Option Nat) :=
  match P.underlying t, P.info? t with
  | some (.struct _), some i => some (some i.size)
  | some (.array _ _), _ => none
  | some _, some _ => some none
  | _, _ => none

def sizeN (P : Program) (t : TypeId) : Option Nat := (P.info? t).map (·.size)

def zeroC (P : Program) (t : TypeId) : Option (List AV) :=
  match (P.info? t).bind (·.zero) with
  | some v => if v.cells.toList.all closedV then some (v.cells.toList.map .lit) else none
  | none => none

def zeroV (P : Program) (t : TypeId) : Option AV :=
  match (P.info? t).bind (·.zero) with
  | some (.agg cs) => if cs.toList.all closedV then some (.agg (cs.toList.map .lit)) else none
  | some v => if closedV v then some (.lit v) else none
  | none => none

def fieldsFlat (P : Program) (fs : Array Field) : Bool :=
  (List.range fs.size).all fun i => match fs[i]? with
    | some f => f.name != "_" && f.offset == i && (match P.underlying f.type with | some (.int _) => true | _ => false)
    | none => false

def eqKind (P : Program) (t : TypeId) : Option EK :=
  match P.underlying t with
  | some .bool => some .bool
  | some (.int _) | some .string => some .prim
  | some (.pointer e) => match sizeN P e with
    | some n => if n ≠ 0 then some .ptr else none
    | none => none
  | some (.slice _) => some .slice
  | some (.map _ _) => some .map
  | some (.interface _) => some .iface
  | some (.func _ _ _) => some .fnk
  | some (.struct fs) => if fieldsFlat P fs && !P.stoodInHeld t && !P.eqGuardType P.depth t then some (.flat fs.size) else none
  | _ => none

def isC : Operand → Bool
  | .const _ => true
  | _ => false

def isSl (P : Program) (t : TypeId) : Option TypeId :=
  match P.underlying t with
  | some (.slice e) => some e
  | _ => none

def intTy (P : Program) (t : TypeId) : Bool :=
  match P.underlying t with
  | some (.int _) => true
  | _ => false

/-- Which keys: 0 numbers, 1 texts, n + 2: n numbers. -/
def keyTy (P : Program) (t : TypeId) : Option Nat :=
  match P.underlying t with
  | some (.int _) => some 0
  | some .string => some 1
  | some (.struct fs) => if fieldsFlat P fs && !P.stoodInHeld t then some (fs.size + 2) else none
  | some (.array n e) => if intTy P e && (sizeN P e == some 1) then some (n + 2) else none
  | _ => none

def prepBuiltin (P : Program) (ann : Nat) (b : Builtin) (args : Array Operand) (ts : Array TypeId) : Option AOp :=
  match b, args.toList, ts.toList with
  | .len, [x], [t] => match P.underlying t with
    | some .string => some (.len 0 x)
    | some (.slice _) => some (.len 1 x)
    | some (.map _ _) => some (.len 2 x)
    | _ => none
  | .cap, [x], [t] => match P.underlying t with
    | some (.slice _) => some (.capn x)
    | _ => none
  | .append, [x, y], [t, u] => match isSl P t with
    | some e => match P.info? e, P.underlying u with
      | some i, some (.int _) => match zeroC P e with
        | some z => opt (ann % 2 == 1) (.appendZ e i.size i.bytes z x y)
        | none => none
      | some i, some (.slice _) | some i, some .string => match zeroC P e with
        | some z => opt (z.length == i.size && 1 ≤ i.size) (.append (ann % 2 == 1) (ann / 2 % 2 == 1) e i.size i.bytes x y)
        | none => none
      | _, _ => none
    | none => none
  | .copy, [x, y], t :: _ => match isSl P t with
    | some e => (sizeN P e).map fun n => .copy n x y
    | none => none
  | .clear, [x], [t] => match isSl P t with
    | some e => match zeroC P e, sizeN P e with
      | some z, some n => if z.length = n ∧ 1 ≤ n then some (.clear n z x) else none
      | _, _ => none
    | none => none
  | .min, [x, y], _ => some (.min [x, y])
  | .max, [x, y], _ => some (.max [x, y])
  | .unsafeSliceData, [x], _ => some (.usData x)
  | .unsafeString, [x, y], [t, _] => match P.underlying t with
    | some (.pointer e) => match P.underlying e with
      | some (.int .u8) => if sizeN P e = some 1 then some (.usString e x y) else none
      | _ => none
    | _ => none
  | .recover, [], _ => some .recover
  | _, _, _ => none

def structParts (P : Program) (fs : Array Field) : List (Nat × Operand) → Option (List (Nat × Nat × Operand))
  | [] => some []
  | (i, x) :: r => match fs[i]? with
    | some f => match sizeN P f.type, structParts P fs r with
      | some s, some l => some ((f.offset, s, x) :: l)
      | _, _ => none
    | none => none

def prepIn (P : Program) (ann : Nat) : Op → Option AOp
  | .move x | .assign x => some (.move x)
  | .pick c a b => some (.pick c a b)
  | .alloc t => (zeroC P t).map fun z => .alloc t z
  | .box t x => some (.box t x)
  | .build t parts => match P.underlying t, zeroC P t with
    | some (.struct fs), some z => if fs.toList.all (fun f => (sizeN P f.type).isSome) then (structParts P fs parts.toList).map fun ps => .build z ps else none
    | some (.array _ e), some z => match sizeN P e with
      | some s => some (.build z (parts.toList.map fun (i, x) => (i * s, s, x)))
      | none => none
    | _, _ => none
  | .buildSlice t len parts => match isSl P t with
    | some e => match sizeN P e, zeroC P e with
      | some s, some z => if z.length = s ∧ 1 ≤ s ∧ len * s ≤ 2 ^ 24 then some (.bslice (ann % 2 == 1) e s len z parts.toList) else none
      | _, _ => none
    | none => none
  | .load t a => (aggN P t).map fun n => .load n a
  | .store t a x => (sizeN P t).map fun n => .store (ann / 2 % 2 == 1) n a x
  | .nilCheck x => some (.nilCheck x)
  | .binOp op t x y _ => match eqKind P t with
    | some .iface => opt (isC x || isC y) (.bin op .iface x y)
    | some e => some (.bin op e x y)
    | none => none
  | .unOp op _ x => some (.un op x)
  | .convert s d x => match P.underlying s, P.underlying d with
    | some (.int _), some (.int k) => some (.convInt k x)
    | some .string, some .string => some (.convId x)
    | some .string, some (.slice e) => match P.underlying e with
      | some (.int .u8) => some (.convSB e x)
      | _ => none
    | some (.slice e), some .string => match P.underlying e with
      | some (.int .u8) => some (.convBS x)
      | _ => none
    | some (.slice _), some (.slice e) => match P.underlying e with
      | some (.int .u8) => opt (s == d) (.convSame x)
      | _ => none
    | some (.pointer e), some .unsafePointer => match sizeN P e with
      | some n => opt (n ≠ 0) (.convUP e n x)
      | none => none
    | some .unsafePointer, some (.pointer e) => match sizeN P e with
      | some n => opt (n ≠ 0 && liesAt P P.depth e 1 0 e 1) (.convUP e n x)
      | none => none
    | _, _ => none
  | .makeInterface t x => match P.underlying t with
    | some (.interface _) => none
    | some _ => some (.mkIface t x)
    | none => none
  | .makeFunc (.func f) a b => some (.mkFunc f a.toList b.toList)
  | .makeMap t none => match P.underlying t with
    | some (.map _ _) => some .mkMap
    | _ => none
  | .makeSlice t l c => match isSl P t with
    | some e => match P.info? e, zeroC P e with
      | some i, some z => if z.length = i.size ∧ 1 ≤ i.size then some (.mkSlice e i.size i.bytes z l c) else none
      | _, _ => none
    | none => none
  | .slice t x lo hi mx => match P.underlying t with
    | some .string => some (.slice none x lo hi mx)
    | some (.slice e) => (sizeN P e).map fun n => .slice (some n) x lo hi mx
    | _ => none
  | .fieldAddr s x f => match P.underlying s with
    | some (.struct fs) => match fs[f]? with
      | some fd => match sizeN P fd.type with
        | some n => opt (n ≠ 0) (.fieldAddr fd.offset x)
        | none => none
      | none => none
    | _ => none
  | .field s x f => match P.underlying s with
    | some (.struct fs) => match fs[f]? with
      | some fd => (aggN P fd.type).map fun n => .field n fd.offset x
      | none => none
    | _ => none
  | .indexAddr t x i => match isSl P t with
    | some e => (sizeN P e).map fun n => .indexAddr n x i
    | none => none
  | .index t x i => match P.underlying t with
    | some .string => some (.index x i)
    | _ => none
  | .lookup t x i ok => match P.underlying t with
    | some (.map k e) => match zeroV P e with
      | some z => (keyTy P k).map fun kk => .lookup kk z ok x i
      | none => none
    | _ => none
  | .mapUpdate t m k x | .insert t m k x => match P.underlying t with
    | some (.map kt _) => (keyTy P kt).map fun kk => .mapUpdate kk m k x
    | _ => none
  | .range t x => match P.underlying t with
    | some .string => some (.range true x)
    | _ => none
  | .next it true => some (.next it)
  | .extract t i => some (.extract i t)
  | .typeAssert x t a ok => match P.underlying a, P.underlying t with
    | some (.interface _), _ => none
    | some _, some (.interface _) => (zeroV P a).map fun z => .typeIs a ok z x
    | _, _ => none
  | .call { callee := .builtin b, args, argTypes } => prepBuiltin P ann b args argTypes
  | .call { callee := .value (.func f), args, .. } => match P.funcs[f]? with
    | some fn =>
      if fn.body.isSome then (if fn.name != "runtime.NumGoroutine" then some (.call (.func f) args.toList) else none)
      else if fn.name == "internal/abi.NoEscape" then (match args.toList with | [x] => some (.noEscape x) | _ => none)
      else none
    | none => none
  | .call { callee := .value f, args, .. } => some (.call f args.toList)
  | .defer { callee := .value f, args, .. } => some (.defer f args.toList)
  | .panic _ => some .bad
  | _ => none

/-- The operands, as a list. -/
def opL : Op → List Operand
  | .alloc _ | .ready _ | .waits _ => []
  | .move x | .assign x | .box _ x | .load _ x | .nilCheck x | .unOp _ _ x | .convert _ _ x | .sliceToArrayPointer _ x | .makeInterface _ x
  | .makeChan _ x | .fieldAddr _ x _ | .field _ x _ | .range _ x | .next x _ | .entry x | .typeAssert x _ _ _ | .extract x _ | .panic x | .recv _ x _ => [x]
  | .pick c a b => [c, a, b]
  | .build _ ps | .buildSlice _ _ ps => ps.toList.map (·.2)
  | .store _ a v | .binOp _ _ a v _ | .makeSlice _ a v | .indexAddr _ a v | .index _ a v | .lookup _ a v _ | .mapEntry _ a v | .send a v => [a, v]
  | .makeFunc _ first captured => first.toList ++ captured.toList
  | .makeMap _ r => r.toList
  | .slice _ x l h m => x :: (l.toList ++ h.toList ++ m.toList)
  | .mapUpdate _ m k v | .entryStore _ m k v | .insert _ m k v => [m, k, v]
  | .call c | .go c | .defer c => (match c.callee with | .value f => [f] | .invoke r _ => [r] | .builtin _ => []) ++ c.args.toList
  | .select cs _ => (cs.flatMap fun c => #[c.chan] ++ c.send.toArray).toList

theorem opL_eq (o : Op) : opL o = o.operands.toList := by
  cases o with
  | call c => obtain ⟨callee, as, ts⟩ := c; cases callee <;> simp [opL, Op.operands, Call.operands]
  | go c => obtain ⟨callee, as, ts⟩ := c; cases callee <;> simp [opL, Op.operands, Call.operands]
  | defer c => obtain ⟨callee, as, ts⟩ := c; cases callee <;> simp [opL, Op.operands, Call.operands]
  | makeMap t r => cases r <;> simp [opL, Op.operands]
  | slice t x l h m => cases l <;> cases h <;> cases m <;> simp [opL, Op.operands]
  | _ => simp [opL, Op.operands]

def prepOp (P : Program) (ann : Nat) (o : Oper) : Option AOp := if (opL o.op).all okO then prepIn P ann o.op else none

/-- A guard by the temporary that it asks. -/
def prepGuard (ops : Array Oper) : Option (Nat × Bool) → Option (Option (Tmp × Bool))
  | none => some none
  | some (j, b) => match (ops[j]?).bind (·.dst) with
    | some t => some (some (t, b))
    | none => none

def prepOps (P : Program) (ann : Nat → Nat) (ops : Array Oper) : List Oper → Nat → Option (List AOper)
  | [], _ => some []
  | o :: rest, i =>
    match prepOp P (ann i) o, prepGuard ops o.guard, prepOps P ann ops rest (i + 1) with
    | some x, some g, some r => some ({ dst := o.dst, op := x, guard := g, idx := i } :: r)
    | _, _, _ => none

/-! ### Regions that draw their order -/
/-- What must come before, by numbers. -/
def afters (o : Oper) : List Nat := (o.after.toList.filter (Region.binds .any ·)).map (·.on)

def maskOf (ms : List Nat) (after : List Nat) : Nat := after.foldl (fun s k => s ||| 2 ^ k ||| ms.getD k 0) 0

def masks : List (List Nat) → List Nat → List Nat
  | [], acc => acc
  | a :: r, acc => masks r (acc ++ [maskOf acc a])

/-- The lazy order: before each operation of the chain only what it needs. -/
def lazy (ms : List Nat) : List AOper → List AOper → List AOper
  | [], todo => todo
  | c :: cs, todo =>
    (todo.filter fun o => !o.op.chain && (ms.getD c.idx 0).testBit o.idx) ++ [c] ++
      lazy ms cs (todo.filter fun o => !(o.op.chain && o.idx == c.idx) && !(!o.op.chain && (ms.getD c.idx 0).testBit o.idx))

/-- Over how many each may move. 'seen': the chain's operations that came before. -/
def setBack (ms : List Nat) : List AOper → List Nat → List AOper
  | [], _ => []
  | o :: r, seen =>
    { o with back := (seen.filter fun c => !(ms.getD o.idx 0).testBit c).length } :: setBack ms r (if o.op.chain then seen ++ [o.idx] else seen)

def tmpsOf (o : Oper) (g : Option (Tmp × Bool)) : List Tmp :=
  o.dst.toList ++ ((opL o.op).filterMap fun | .tmp t => some t | _ => none) ++ (g.map (·.1)).toList

/-- An operation of the order, behind 'done', ahead of 'rest'. -/
def drawChk (ops : Array Oper) (ms : List Nat) (done : List AOper) (o : AOper) (rest : List AOper) : Bool :=
  let m := ms.getD o.idx 0
  -- once
  (!done.any fun d => d.idx == o.idx) &&
  -- what it hangs on has come
  ((List.range ops.size).all fun j => !m.testBit j || done.any fun d => d.idx == j) &&
  -- the chain: all that came is needed
  (!o.op.chain || done.all fun d => m.testBit d.idx) &&
  -- the temporaries: in order
  (match ops[o.idx]? with
    | some x => rest.all fun r => match ops[r.idx]? with
      | some y => ((tmpsOf x o.guard).all fun t => y.dst != some t) && ((tmpsOf y r.guard).all fun t => x.dst != some t) || (ms.getD r.idx 0).testBit o.idx
      | none => false
    | none => false) &&
  -- over how many it may move
  (o.op.chain || (done.filter fun d => d.op.chain && !m.testBit d.idx).length ≤ o.back)

def drawGo (ops : Array Oper) (ms : List Nat) : List AOper → List AOper → Bool
  | _, [] => true
  | done, o :: rest => drawChk ops ms done o rest && drawGo ops ms (done ++ [o]) rest

/-- Is the order good? -/
def drawOk (ops : Array Oper) (ms : List Nat) (L : List AOper) : Bool :=
  -- each
  (L.length == ops.size) && ((List.range ops.size).all fun i => L.any fun o => o.idx == i) &&
  -- the closures
  ((List.range ops.size).all fun i => match ops[i]? with
    | some o => ms.getD i 0 == maskOf ms (afters o) && (afters o).all (· < ops.size)
    | none => false) &&
  drawGo ops ms [] L

def prepDraw (P : Program) (ann : Nat → Nat) (ops : Array Oper) : Option (List AOper) :=
  match prepOps P ann ops ops.toList 0 with
  | some l =>
    let ms := masks (ops.toList.map afters) []
    let L := setBack ms (lazy ms (l.filter (·.op.chain)) l) []
    if drawOk ops ms L then some L else none
  | none => none

/-- Code in which nothing is deferred and no function is ranged over. -/
def plainC : ACode → Bool
  | .region _ ops _ => ops.all fun o => match o.op with
    | .defer _ _ => false
    | _ => true
  | .seq a b | .cond _ a b => plainC a && plainC b
  | .block _ c | .loop c | .scope c => plainC c
  | .rangeFunc .. => false
  | _ => true

def prepCode (P : Program) (ann : Nat → Nat → Nat) : Code → Option ACode
  | .skip => some .skip
  | .region id ops draw => (if draw then prepDraw P (ann id) ops else prepOps P (ann id) ops ops.toList 0).map fun l => .region id l draw
  | .seq a b => match prepCode P ann a, prepCode P ann b with
    | some x, some y => some (.seq x y)
    | _, _ => none
  | .cond c a b => if okO c then match prepCode P ann a, prepCode P ann b with
    | some x, some y => some (.cond c x y)
    | _, _ => none else none
  | .block id c => (prepCode P ann c).map (.block id)
  | .loop c => (prepCode P ann c).map .loop
  | .rangeFunc f ps a b => if okO f then match prepCode P ann a, prepCode P ann b with
    | some x, some y => if plainC x && plainC y then some (.rangeFunc f ps.toList x y) else none
    | _, _ => none else none
  | .exit id => some (.exit id)
  | .scope c => (prepCode P ann c).map .scope
  | .label l => some (.label l)
  | .goto l => some (.goto l)
  | .ret => some .ret
  | .refuse _ => some .refuse

end Go.Abs
