/-
  THE ABSTRACT MACHINE's OPERATIONS, as functions.
-/
import Derived.Test.YtpkgbbkhipkepaaGreatAbsDefs
import Derived.Laws.Sem
namespace Go.Abs

def evalO (σ : List AV) : Operand → AV
  | .tmp t => σ.getD t .und
  | .const v => .lit v
  | .global _ => .und
  | .func f => .fn f [] []

/-- A value of one cell. -/
def AV.one : AV → Bool
  | .agg _ | .tup _ => false
  | .lit v => v.oneCell'
  | _ => true

def unflat : List AV → AV
  | [x] => x
  | cs => .agg cs

/-- n elements of sz cells each. -/
def chunk (sz : Nat) : Nat → List AV → List AV
  | 0, _ => []
  | n + 1, cs => unflat (cs.take sz) :: chunk sz n (cs.drop sz)

def splice (cs : List AV) (k : Nat) (new : List AV) : List AV := cs.take k ++ new ++ cs.drop (k + new.length)

/-- The elements of a slice. -/
def elems (H : AH) : AV → Option (List AV)
  | .lit (.slice none 0 0) => some []
  | .sl _ _ xs => some xs
  | .rs o g sz off len =>
    match H.get o with
    | some (.cells _ g' _ cs) =>
      if g = g' ∧ (off + len) * sz ≤ cs.length ∧ ((cs.drop (off * sz)).take (len * sz)).all AV.one then some (chunk sz len ((cs.drop (off * sz)).take (len * sz))) else none
    | _ => none
  | _ => none

def lenOf (v : AV) : Option Nat :=
  match v with
  | .lit (.slice none 0 0) => some 0
  | .sl _ _ xs => some xs.length
  | .rs _ _ _ _ len => some len
  | _ => none

/-- What is appended or copied: elements. -/
def items (H : AH) : AV → Option (List AV)
  | .lit (.string s) => some (s.data.toList.map fun b => .int .u8 b.toNat)
  | v => elems H v

def keyEq : AV → AV → Bool
  | .lit (.int k a), .lit (.int j b) => k == j && a == b
  | .lit (.string a), .lit (.string b) => a == b
  | .lit (.bool a), .lit (.bool b) => a == b
  | .agg as, .agg bs => as.length == bs.length && (as.zip bs).all fun
    | (.lit (.int k a), .lit (.int j b)) => k == j && a == b
    | _ => false
  | _, _ => false

def isInt : AV → Bool
  | .lit (.int _ _) => true
  | _ => false

/-- May it be a key: a number, a string, numbers. -/
def isKey (kk : Nat) : AV → Bool
  | .lit (.int _ _) => kk == 0
  | .lit (.string _) => kk == 1
  | .agg as => kk == as.length + 2 && as.all isInt
  | _ => false

/-- Of one shape: numbers of one kind, texts, numbers one by one. -/
def shp : AV → AV → Bool
  | .lit (.int k _), .lit (.int j _) => k == j
  | .lit (.string _), .lit (.string _) => true
  | .agg as, .agg bs => as.length == bs.length && (as.zip bs).all fun
    | (.lit (.int k _), .lit (.int j _)) => k == j
    | _ => false
  | _, _ => false

/-- A key's place; none: a key of another shape. -/
def findKey (k : AV) : List (AV × AV × Nat) → Nat → Option (Option (Nat × AV))
  | [], _ => some none
  | (k', v, _) :: es, i => if shp k k' then (if keyEq k k' then some (some (i, v)) else findKey k es (i + 1)) else none

/-- One behind the other. -/
def frzAll (f : AH → AV → Option (AV × AH)) : AH → List AV → Option (List AV × AH)
  | H, [] => some ([], H)
  | H, x :: xs =>
    match f H x with
    | some (u, H') =>
      match frzAll f H' xs with
      | some (us, H'') => some (u :: us, H'')
      | none => none
    | none => none

/-- Values, all by value: a changeable row that is given up. 'n' bounds the depth. -/
def freeze : Nat → AH → AV → Option (AV × AH)
  | 0, _, _ => none
  | n + 1, H, v =>
    match v with
    | .rs o g sz off len =>
      match H.get o with
      | some (.cells _ g' fz cs) =>
        if g = g' ∧ (off + len) * sz ≤ cs.length ∧ fz = 0 then
          match frzAll (freeze n) (H.set o .dead) ((cs.drop (off * sz)).take (len * sz)) with
          | some (us, H') => if us.all AV.one then some (.sl .no sz (chunk sz len us), H') else none
          | none => none
        else none
      | _ => none
    | .agg cs => (frzAll (freeze n) H cs).map fun (us, H') => (.agg us, H')
    | .tup cs => (frzAll (freeze n) H cs).map fun (us, H') => (.tup us, H')
    | v => some (v, H)

def freezeIf (b : Bool) (H : AH) (v : AV) : Option (AV × AH) := if b then freeze 8 H v else some (v, H)

/-- Cells with parts laid into them. -/
def afill (cells : List AV) : List (Nat × Nat × AV) → Option (List AV)
  | [] => some cells
  | (off, size, v) :: rest => if v.cells.length = size ∧ off + size ≤ cells.length then afill (splice cells off v.cells) rest else none

def strLess (a b : ByteArray) : Bool := Op.bytesLess a.toList b.toList

def litBin (op : BinOp) : Value → Value → Option Value
  | .int k a, .int k' b =>
    match op with
    | .shl => if 0 ≤ b then some (.int k (k.wrap (a * 2 ^ (Nat.min b.toNat k.bits)))) else none
    | .shr => if 0 ≤ b then some (.int k (a.fdiv (2 ^ (Nat.min b.toNat k.bits)))) else none
    | _ =>
      if k ≠ k' then none else
      match op with
      | .add => some (.int k (k.wrap (a + b)))
      | .sub => some (.int k (k.wrap (a - b)))
      | .mul => some (.int k (k.wrap (a * b)))
      | .quo => if b = 0 then none else some (.int k (k.wrap (a.tdiv b)))
      | .rem => if b = 0 then none else some (.int k (a.tmod b))
      | .and => some (.int k (k.wrap (BitVec.ofInt k.bits a &&& BitVec.ofInt k.bits b).toNat))
      | .or => some (.int k (k.wrap (BitVec.ofInt k.bits a ||| BitVec.ofInt k.bits b).toNat))
      | .xor => some (.int k (k.wrap (BitVec.ofInt k.bits a ^^^ BitVec.ofInt k.bits b).toNat))
      | .andNot => some (.int k (k.wrap (BitVec.ofInt k.bits a &&& ~~~ BitVec.ofInt k.bits b).toNat))
      | .eql => some (.bool (a == b))
      | .neq => some (.bool (a != b))
      | .lss => some (.bool (a < b))
      | .leq => some (.bool (a ≤ b))
      | .gtr => some (.bool (a > b))
      | .geq => some (.bool (a ≥ b))
      | _ => none
  | .string x, .string y =>
    match op with
    | .add => if ((x.size + y.size : Nat) : Int) > IntKind.i64.max then none else some (.string (x ++ y))
    | .eql => some (.bool (x.toList == y.toList))
    | .neq => some (.bool (!(x.toList == y.toList)))
    | .lss => some (.bool (strLess x y))
    | .leq => some (.bool (strLess x y || (x.toList == y.toList)))
    | .gtr => some (.bool (!(strLess x y || (x.toList == y.toList))))
    | .geq => some (.bool (!(strLess x y)))
    | _ => none
  | .bool a, .bool b =>
    match op with
    | .eql => some (.bool (a == b))
    | .neq => some (.bool (!(a == b)))
    | _ => none
  | _, _ => none

/-- Whether a value is nil, of a kind that may be. -/
def nilness : EK → AV → Option Bool
  | .ptr, v => match v with
    | .lit (.pointer none) => some true
    | .ptr .. | .ip .. => some false
    | _ => none
  | .slice, v => match v with
    | .lit (.slice none _ _) => some true
    | .sl .. | .rs .. => some false
    | _ => none
  | .map, v => match v with
    | .lit (.map none) => some true
    | .mp .. => some false
    | _ => none
  | .iface, v => match v with
    | .lit .nilIface => some true
    | .ifc .. => some false
    | _ => none
  | .fnk, v => match v with
    | .lit .nilFunc => some true
    | .fn .. | .yld .. => some false
    | _ => none
  | _, _ => none

def sameEq (e : EK) (x y : AV) : Option Bool :=
  match e with
  | .prim => none
  | .bool => match x, y with
    | .lit (.bool a), .lit (.bool b) => some (a == b)
    | _, _ => none
  | .flat n => match x, y with
    | .agg as, .agg bs => if as.length = n ∧ bs.length = n ∧ shp x y then some (keyEq x y) else none
    | _, _ => none
  | .ptr => match x, y with
    | .ptr o g k, .ptr o' g' k' => if o = o' ∧ g = g' ∧ k = k' then some true else none
    | x, y => nilEq .ptr x y
  | e => nilEq e x y
where
  nilEq (e : EK) (x y : AV) : Option Bool :=
    match nilness e x, nilness e y with
    | some true, some b => some b
    | some b, some true => some b
    | _, _ => none

def abin (op : BinOp) (e : EK) (x y : AV) : Option AV :=
  match x, y with
  | .lit (.int k a), .lit (.int k' b) => (litBin op (.int k a) (.int k' b)).map .lit
  | .lit (.string a), .lit (.string b) => (litBin op (.string a) (.string b)).map .lit
  | x, y =>
    match op with
    | .eql => (sameEq e x y).map .bool
    | .neq => (sameEq e x y).map fun b => .bool (!b)
    | _ => none

def aun (op : UnOp) : AV → Option AV
  | .lit (.bool b) => match op with
    | .not => some (.bool (!b))
    | _ => none
  | .lit (.int k n) => match op with
    | .neg => some (.int k (k.wrap (0 - n)))
    | .xor => some (.int k (k.wrap (BitVec.ofInt k.bits (if k.signed then -1 else k.max) ^^^ BitVec.ofInt k.bits n).toNat))
    | _ => none
  | _ => none

def natOf : AV → Option Nat
  | .lit (.int _ n) => if 0 ≤ n then some n.toNat else none
  | _ => none

def optNat (σ : List AV) (d : Nat) : Option Operand → Option Nat
  | none => some d
  | some x => natOf (evalO σ x)

def aslice (H : AH) (str : Option Nat) (x : AV) (lo : Nat) (hi mx : Option Nat) : Option AV :=
  match str, x with
  | none, .lit (.string s) =>
    let h := hi.getD s.size
    if lo ≤ h ∧ h ≤ s.size ∧ mx.isNone then some (.str (s.extract lo h)) else none
  | some _, .lit (.slice none 0 0) => if lo = 0 ∧ hi.getD 0 = 0 ∧ mx.getD 0 = 0 then some .nilSl else none
  | some sz0, .sl t sz xs =>
    let h := hi.getD xs.length
    if lo ≤ h ∧ h ≤ xs.length ∧ sz0 = sz then
      match mx with
      | none => if h = xs.length then some (.sl (if t = .lit then .full else t) sz (xs.drop lo)) else some (.sl .no sz ((xs.drop lo).take (h - lo)))
      | some m => if m = h then some (.sl .full sz ((xs.drop lo).take (h - lo))) else none
    else none
  | some sz0, .rs o g sz off len =>
    match H.get o with
    | some (.cells _ g' _ _) =>
      let h := hi.getD len
      if g = g' ∧ lo ≤ h ∧ h ≤ len ∧ sz0 = sz then
        match mx with
        | none => some (.rs o g sz (off + lo) (h - lo))
        | some m => if m = h ∧ h = lo then some (.sl .full sz []) else none
      else none
    | _ => none
  | _, _ => none

def okRoom (need bytes : Nat) : Bool := need * bytes ≤ 2 ^ 46 && 1 ≤ bytes && bytes ≤ 2 ^ 32

def aappend (H : AH) (ref : Bool) (ty : TypeId) (sz bytes : Nat) (x : AV) (ys : List AV) : Option (AV × AH) :=
  if ys.all (fun y => y.cells.length == sz && y.cells.all AV.one) then
    match x with
    | .lit (.slice none 0 0) => fresh []
    | .sl .full sz' xs | .sl .lit sz' xs => if sz = sz' then fresh xs else none
    | .sl (.t tk) sz' xs =>
      match ref, sz == sz', ys, H.get tk with
      | false, true, [], _ => some (x, H)
      | false, true, _, some (.tok ty' e) =>
        if ty = ty' ∧ okRoom (xs.length + ys.length) bytes then
          some (.sl (.t H.n) sz (xs ++ ys), (H.set tk .dead).push (.tok ty (if e = some (xs.length * sz) then some ((xs.length + ys.length) * sz) else none)))
        else none
      | _, _, _, _ => none
    | .sl .no _ _ => match ys with
      | [] => some (x, H)
      | _ => none
    | .rs o g sz' off len =>
      match H.get o with
      | some (.cells ty' g' fz cs) =>
        if g = g' ∧ sz = sz' ∧ ty = ty' ∧ fz = 0 ∧ (off + len) * sz ≤ cs.length ∧ okRoom (len + ys.length) bytes then
          some (.rs o (H.n + 1) sz 0 (len + ys.length), (H.set o (.cells ty (H.n + 1) 0 (((cs.drop (off * sz)).take (len * sz)) ++ flat ys))).push .dead)
        else none
      | _ => none
    | _ => none
  else none
where
  fresh (xs : List AV) : Option (AV × AH) :=
    match ys with
    | [] => some (x, H)
    | _ =>
      if okRoom (xs.length + ys.length) bytes then
        if ref then some (.rs H.n 0 sz 0 (xs.length + ys.length), H.push (.cells ty 0 0 (flat (xs ++ ys))))
        else some (.sl (.t H.n) sz (xs ++ ys), H.push (.tok ty (some ((xs.length + ys.length) * sz))))
      else none

def toBytes? : List AV → Option (List UInt8)
  | [] => some []
  | .lit (.int .u8 n) :: r => (toBytes? r).map (UInt8.ofNat n.toNat :: ·)
  | _ => none

def storeTo (H : AH) (a : AV) (n : Nat) (us : List AV) : Option AH :=
  match a with
  | .ptr o g k =>
    match H.get o with
    | some (.cells ty g' fz cs) => if g = g' ∧ us.length = n ∧ k + n ≤ cs.length ∧ fz ≤ k ∧ us.all AV.one then some (H.set o (.cells ty g fz (splice cs k us))) else none
    | _ => none
  | _ => none

def loadFrom (H : AH) (a : AV) (n : Option Nat) : Option AV :=
  match a with
  | .ptr o g k =>
    match H.get o with
    | some (.cells _ g' _ cs) =>
      if g = g' then
        match n with
        | none => cs[k]?
        | some m => if k + m ≤ cs.length then some (.agg ((cs.drop k).take m)) else none
      else none
    | _ => none
  | .ip cs =>
    match n with
    | none => cs[0]?
    | some m => if m ≤ cs.length then some (.agg (cs.take m)) else none
  | _ => none

/-- The elements of a slice that is full. -/
def fullOf (sz : Nat) : AV → Option (List AV)
  | .lit (.slice none 0 0) => some []
  | .sl .full sz' xs | .sl .lit sz' xs => if sz' = sz then some xs else none
  | _ => none

/-- An operation that is no call. -/
def aop (σ : List AV) (H : AH) : AOp → Option (AV × AH)
  | .move x => some (evalO σ x, H)
  | .pick c a b => match evalO σ c with
    | .lit (.bool true) => some (evalO σ a, H)
    | .lit (.bool false) => some (evalO σ b, H)
    | _ => none
  | .alloc ty zero => some (.ptr H.n 0 0, H.push (.cells ty 0 0 zero))
  | .box ty x => some (.ptr H.n 0 0, H.push (.cells ty 0 0 (evalO σ x).cells))
  | .build zero parts => (afill zero (parts.map fun (o, s, x) => (o, s, evalO σ x))).map fun cs => (.agg cs, H)
  | .bslice ref ty sz len zero parts =>
    if zero.length = sz ∧ 1 ≤ sz then
      match afill (List.replicate len zero).flatten (parts.map fun (i, x) => (i * sz, sz, evalO σ x)) with
      | some cs => if ref then some (.rs H.n 0 sz 0 len, H.push (.cells ty 0 0 cs)) else if cs.all AV.one then some (.sl .lit sz (chunk sz len cs), H) else none
      | none => none
    else none
  | .load n a => (loadFrom H (evalO σ a) n).map fun v => (v, H)
  | .store fz n a x => match freezeIf fz H (evalO σ x) with
    | some (v, H') => (storeTo H' (evalO σ a) n v.cells).map fun H'' => (.und, H'')
    | none => none
  | .nilCheck x => match evalO σ x with
    | .lit (.pointer none) | .lit .nilIface | .lit .nilFunc => none
    | v => some (v, H)
  | .bin op e x y => (abin op e (evalO σ x) (evalO σ y)).map fun v => (v, H)
  | .un op x => (aun op (evalO σ x)).map fun v => (v, H)
  | .convInt k x => match evalO σ x with
    | .lit (.int _ n) => some (.int k (k.wrap n), H)
    | _ => none
  | .convId x => match evalO σ x with
    | .lit (.string s) => some (.str s, H)
    | _ => none
  | .convBS x => match elems H (evalO σ x) with
    | some xs => (toBytes? xs).map fun bs => (.str ⟨bs.toArray⟩, H)
    | none => none
  | .convSame x => match evalO σ x with
    | .sl .lit sz xs => some (.sl .full sz xs, H)
    | _ => none
  | .convSB ty x => match evalO σ x with
    | .lit (.string s) => if s.size < 2 ^ 62 then some (.sl (.t H.n) 1 (s.data.toList.map fun b => .int .u8 b.toNat), H.push (.tok ty none)) else none
    | _ => none
  | .convUP ty sz x => match evalO σ x with
    | .ptr o g 0 => match H.get o with
      | some (.cells ty' g' _ cs) => if g = g' ∧ ty = ty' ∧ cs.length = sz ∧ g = 0 then some (.ptr o g 0, H) else none
      | _ => none
    | _ => none
  | .mkIface t x => some (.ifc t (evalO σ x), H)
  | .mkFunc f a b => some (.fn f (a.map (evalO σ)) (b.map (evalO σ)), H)
  | .mkMap => some (.mp H.n, H.push (.map [] 0))
  | .mkSlice ty sz bytes zero len cap =>
    match natOf (evalO σ len), natOf (evalO σ cap) with
    | some l, some c => if l ≤ c ∧ okRoom c bytes ∧ zero.length = sz ∧ 1 ≤ sz then some (.rs H.n 0 sz 0 l, H.push (.cells ty 0 0 (List.replicate l zero).flatten)) else none
    | _, _ => none
  | .slice str x lo hi mx =>
    match optNat σ 0 lo with
    | some l =>
      match hi, mx with
      | none, none => (aslice H str (evalO σ x) l none none).map fun v => (v, H)
      | some h, none => match natOf (evalO σ h) with
        | some h => (aslice H str (evalO σ x) l (some h) none).map fun v => (v, H)
        | none => none
      | some h, some m => match natOf (evalO σ h), natOf (evalO σ m) with
        | some h, some m => (aslice H str (evalO σ x) l (some h) (some m)).map fun v => (v, H)
        | _, _ => none
      | none, some _ => none
    | none => none
  | .fieldAddr off x => match evalO σ x with
    | .ptr o g k => some (.ptr o g (k + off), H)
    | .ip cs => some (.ip (cs.drop off), H)
    | _ => none
  | .field n off x => match evalO σ x with
    | .agg cs => match n with
      | none => (cs[off]?).map fun v => (v, H)
      | some m => if off + m ≤ cs.length then some (.agg ((cs.drop off).take m), H) else none
    | _ => none
  | .indexAddr sz x i => match natOf (evalO σ i), evalO σ x with
    | some i, .sl _ sz' xs => if sz = sz' then (xs[i]?).map fun v => (.ip v.cells, H) else none
    | some i, .rs o g sz' off len => match H.get o with
      | some (.cells _ g' _ cs) => if g = g' ∧ sz = sz' ∧ i < len ∧ (off + i + 1) * sz ≤ cs.length then some (.ptr o g ((off + i) * sz), H) else none
      | _ => none
    | _, _ => none
  | .index x i => match natOf (evalO σ i), evalO σ x with
    | some i, .lit (.string s) => match s.data.toList[i]? with
      | some b => some (.int .u8 b.toNat, H)
      | none => none
    | _, _ => none
  | .lookup kk zero ok x i =>
    let k := evalO σ i
    if isKey kk k then
      match evalO σ x with
      | .lit (.map none) => some (if ok then .tup [zero, .bool false] else zero, H)
      | .mp o => match H.get o with
        | some (.map es _) => match findKey k es 0 with
          | some (some (_, v)) => some (if ok then .tup [v, .bool true] else v, H)
          | some none => some (if ok then .tup [zero, .bool false] else zero, H)
          | none => none
        | _ => none
      | _ => none
    else none
  | .mapUpdate kk m k x =>
    let k := evalO σ k
    if isKey kk k then
      match evalO σ m with
      | .mp o => match H.get o with
        | some (.map es clock) => match findKey k es 0 with
          | some (some (i, _)) => some (.und, H.set o (.map (es.modify i fun e => (k, evalO σ x, e.2.2)) clock))
          | some none => some (.und, H.set o (.map (es ++ [(k, evalO σ x, clock)]) (clock + 1)))
          | none => none
        | _ => none
      | _ => none
    else none
  | .range str x => match str, evalO σ x with
    | true, .lit (.string s) => some (.itr H.n, H.push (.iter s 0))
    | _, _ => none
  | .next x => match evalO σ x with
    | .itr o => match H.get o with
      | some (.iter s pos) =>
        if pos < s.size then
          let (c, width) := Utf8.decode s pos
          some (.tup [.bool true, .int .i64 pos, .int .i32 c], H.set o (.iter s (pos + width)))
        else some (.tup [.bool false], H)
      | _ => none
    | _ => none
  | .extract i x => match evalO σ x with
    | .tup vs => (vs[i]?).map fun v => (v, H)
    | _ => none
  | .typeIs t ok zero x => match evalO σ x with
    | .lit .nilIface => if ok then some (.tup [zero, .bool false], H) else none
    | .ifc u v => if u = t then some (if ok then .tup [v, .bool true] else v, H) else if ok then some (.tup [zero, .bool false], H) else none
    | _ => none
  | .len k x => match k, evalO σ x with
    | 0, .lit (.string s) => some (.int .i64 s.size, H)
    | 1, v => (lenOf v).map fun n => (.int .i64 n, H)
    | 2, .mp o => match H.get o with
      | some (.map es _) => some (.int .i64 es.length, H)
      | _ => none
    | 2, .lit (.map none) => some (.int .i64 0, H)
    | _, _ => none
  | .capn x => match evalO σ x with
    | .lit (.slice none 0 0) => some (.int .i64 0, H)
    | .sl .full _ xs | .sl .lit _ xs => some (.int .i64 xs.length, H)
    | _ => none
  | .append ref fz ty sz bytes x y => match items H (evalO σ y) with
    | some ys => if ys.all (fun y => y.cells.length == sz) then match (if fz then frzAll (freeze 8) H ys else some (ys, H)) with
      | some (us, H') => aappend H' ref ty sz bytes (evalO σ x) us
      | none => none
      else none
    | none => none
  | .appendZ ty sz bytes zero x n => match natOf (evalO σ n), fullOf sz (evalO σ x) with
    | some n, some xs => if zero.length = sz ∧ 1 ≤ sz ∧ 1 ≤ n ∧ okRoom (xs.length + n) bytes then some (.rs H.n 0 sz 0 (xs.length + n), H.push (.cells ty 0 0 (flat xs ++ (List.replicate n zero).flatten))) else none
    | _, _ => none
  | .copy sz0 x y => match evalO σ x, items H (evalO σ y) with
    | .rs o g sz off len, some ys =>
      let n := Nat.min ys.length len
      let us := flat (ys.take n)
      if us.length = n * sz ∧ 1 ≤ sz ∧ ys.all (fun y => y.cells.length == sz) ∧ sz0 = sz then
        match storeTo H (.ptr o g (off * sz)) (n * sz) us with
        | some H' => some (.int .i64 n, H')
        | none => none
      else none
    | _, _ => none
  | .clear sz zero x => match evalO σ x with
    | .lit (.slice none 0 0) => some (.und, H)
    | .rs o g sz' off len =>
      if sz = sz' ∧ zero.length = sz then
        if len = 0 then some (.und, H) else
        match storeTo H (.ptr o g (off * sz)) (len * sz) (List.replicate len zero).flatten with
        | some H' => some (.und, H')
        | none => none
      else none
    | _ => none
  | .min xs => match xs.map (evalO σ) with
    | [.lit (.int k a), .lit (.int k' b)] => if k = k' then some (.int k (if b < a then b else a), H) else none
    | _ => none
  | .max xs => match xs.map (evalO σ) with
    | [.lit (.int k a), .lit (.int k' b)] => if k = k' then some (.int k (if b > a then b else a), H) else none
    | _ => none
  | .usData x => match evalO σ x with
    | .lit (.slice none 0 0) => some (.nilP, H)
    | .sl (.t o) 1 xs => match H.get o with
      | some (.tok _ e) => if e = some xs.length ∧ xs ≠ [] then some (.dp o (flat xs), H) else none
      | _ => none
    | _ => none
  | .usString ty p n => match evalO σ p, natOf (evalO σ n) with
    | .lit (.pointer none), some 0 => some (.str .empty, H)
    | .dp o xs, some n => match H.get o with
      | some (.tok ty' e) =>
        if ty = ty' ∧ e = some n ∧ xs.length = n ∧ 1 ≤ n ∧ n < 2 ^ 62 then (toBytes? xs).map fun bs => (.str ⟨bs.toArray⟩, H) else none
      | _ => none
    | _, _ => none
  | .noEscape x => some (evalO σ x, H)
  | .recover | .call _ _ | .defer _ _ | .bad => none

/-- The object at which a value's head looks. -/
def named : AV → Option Nat
  | .ptr o _ _ => some o
  | .rs o _ _ _ _ => some o
  | .mp o => some o
  | _ => none

/-- The operands at whose objects an operation looks. -/
def AOp.reads : AOp → List Operand
  | .load _ a => [a]
  | .convBS x => [x]
  | .convUP _ _ x => [x]
  | .slice _ x _ _ _ => [x]
  | .indexAddr _ x _ => [x]
  | .lookup _ _ _ x _ => [x]
  | .len _ x => [x]
  | _ => []

/-- Operations that make an object. -/
def AOp.makes : AOp → Bool
  | .alloc .. | .box .. | .mkMap | .mkSlice .. | .range .. | .convSB .. => true
  | .bslice ref .. => ref
  | _ => false

/-- The operations that must come in their order. -/
def AOp.chain : AOp → Bool
  | .store .. | .append .. | .appendZ .. | .copy .. | .clear .. | .mapUpdate .. | .next .. | .call .. | .defer .. | .recover | .usData .. | .usString .. | .bad => true
  | _ => false

/-- Are they alike? (No function value, no value of the world but those that lead nowhere.) -/
def litBeq : Value → Value → Bool
  | .int k a, .int j b => k == j && a == b
  | .bool a, .bool b => a == b
  | .string a, .string b => a.toList == b.toList
  | .pointer none, .pointer none => true
  | .slice none a b, .slice none c d => a == c && b == d
  | .map none, .map none => true
  | .nilFunc, .nilFunc => true
  | .nilIface, .nilIface => true
  | _, _ => false

def allB (f : AV → AV → Bool) : List AV → List AV → Bool
  | [], [] => true
  | a :: as, b :: bs => f a b && allB f as bs
  | _, _ => false

def avBeq : Nat → AV → AV → Bool
  | 0, _, _ => false
  | n + 1, x, y =>
    match x, y with
    | .lit u, .lit v => litBeq u v
    | .ptr o g k, .ptr o' g' k' => o == o' && g == g' && k == k'
    | .ip as, .ip bs => allB (avBeq n) as bs
    | .sl t sz xs, .sl t' sz' ys => decide (t = t') && sz == sz' && allB (avBeq n) xs ys
    | .rs o g sz off len, .rs o' g' sz' off' len' => o == o' && g == g' && sz == sz' && off == off' && len == len'
    | .mp o, .mp o' => o == o'
    | .fn f as bs, .fn f' as' bs' => f == f' && allB (avBeq n) as as' && allB (avBeq n) bs bs'
    | .ifc t x, .ifc t' y => t == t' && avBeq n x y
    | .agg as, .agg bs => allB (avBeq n) as bs
    | .tup as, .tup bs => allB (avBeq n) as bs
    | _, _ => false

end Go.Abs
