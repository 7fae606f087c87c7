/- The abstract machine, part B: operations on evaluated operands, and what they come to in the model. -/
import Derived.Test.YtlmikadohcdclaaAmA
import Derived.Laws.Append
import Derived.Laws.BytesString
import Derived.Laws.MakeOwn
set_option linter.unusedSimpArgs false
set_option linter.unusedVariables false
namespace Go.AM

/-- The operations, their types resolved, over operands X. -/
inductive AOp (X : Type)
  | mov (x : X)
  | pick (c a b : X)
  | new (e : TypeId) (esz : Nat) (z : List Value)
  | box (e : TypeId) (esz : Nat) (x : X)
  | build (z : List Value) (ps : List (Nat × Nat × X))
  | bslice (e : TypeId) (esz n : Nat) (z : List Value) (ps : List (Nat × Nat × X))
  | load1 (x : X)
  | loadn (n : Nat) (x : X)
  | store1 (a x : X)
  | storen (n : Nat) (a x : X)
  | nilck (x : X)
  | bin (op : BinOp) (x y : X)
  | eqv (k : Nat) (neg : Bool) (x y : X)
  | un (op : UnOp) (x : X)
  | i2i (k : IntKind) (x : X)
  | s2s (x : X)
  | s2b (e : TypeId) (x : X)
  | b2s (x : X)
  | iface (t : TypeId) (x : X)
  | mkfn (fn : Fn) (xs ys : List X)
  | mksl (e : TypeId) (esz bytes : Nat) (z : List Value) (l c : X)
  | slstr (x : X) (lo hi : Option X)
  | slsl (esz : Nat) (x : X) (lo hi mx : Option X)
  | faddr (off : Nat) (x : X)
  | fld1 (off : Nat) (x : X)
  | fldn (off n : Nat) (x : X)
  | iaddr (esz : Nat) (x i : X)
  | idxs (x i : X)
  | assert (t : TypeId) (z : Value) (ok : Bool) (x : X)
  | extract (x : X) (i : Nat)
  | len (str : Bool) (x : X)
  | app (e : TypeId) (esz bytes : Nat) (s x : X)
  | mark (x : X)
  | iaddrp (esz n : Nat) (x i : X)
  | idxa (agg : Bool) (esz n : Nat) (x i : X)
  | slarr (esz n : Nat) (x : X) (lo hi mx : Option X)
  | eqs (cs : List Nat) (neg : Bool) (x y : X)
  | mm (mx : Bool) (x y : X)
  | i2str (x : X)
  | rng (x : X)
  | next (x : X)
  | copy (esz : Nat) (d s : X)
  | clr (esz : Nat) (z : List Value) (x : X)
  | apps (e : TypeId) (bytes : Nat) (s x : X)
  | callf (f : FuncId) (xs : List X)
  | callv (f : X) (xs : List X)
  | bad

def AOp.map {X Y : Type} (f : X → Y) : AOp X → AOp Y
  | .mov x => .mov (f x)
  | .pick c a b => .pick (f c) (f a) (f b)
  | .new e s z => .new e s z
  | .box e s x => .box e s (f x)
  | .build z ps => .build z (ps.map fun p => (p.1, p.2.1, f p.2.2))
  | .bslice e s n z ps => .bslice e s n z (ps.map fun p => (p.1, p.2.1, f p.2.2))
  | .load1 x => .load1 (f x)
  | .loadn n x => .loadn n (f x)
  | .store1 a x => .store1 (f a) (f x)
  | .storen n a x => .storen n (f a) (f x)
  | .nilck x => .nilck (f x)
  | .bin op x y => .bin op (f x) (f y)
  | .eqv k n x y => .eqv k n (f x) (f y)
  | .un op x => .un op (f x)
  | .i2i k x => .i2i k (f x)
  | .s2s x => .s2s (f x)
  | .s2b e x => .s2b e (f x)
  | .b2s x => .b2s (f x)
  | .iface t x => .iface t (f x)
  | .mkfn fn xs ys => .mkfn fn (xs.map f) (ys.map f)
  | .mksl e s b z l c => .mksl e s b z (f l) (f c)
  | .slstr x lo hi => .slstr (f x) (lo.map f) (hi.map f)
  | .slsl s x lo hi mx => .slsl s (f x) (lo.map f) (hi.map f) (mx.map f)
  | .faddr o x => .faddr o (f x)
  | .fld1 o x => .fld1 o (f x)
  | .fldn o n x => .fldn o n (f x)
  | .iaddr s x i => .iaddr s (f x) (f i)
  | .idxs x i => .idxs (f x) (f i)
  | .assert t z ok x => .assert t z ok (f x)
  | .extract x i => .extract (f x) i
  | .len s x => .len s (f x)
  | .app e s b x y => .app e s b (f x) (f y)
  | .mark x => .mark (f x)
  | .iaddrp s n x i => .iaddrp s n (f x) (f i)
  | .idxa a s n x i => .idxa a s n (f x) (f i)
  | .slarr s n x lo hi mx => .slarr s n (f x) (lo.map f) (hi.map f) (mx.map f)
  | .eqs cs n x y => .eqs cs n (f x) (f y)
  | .mm m x y => .mm m (f x) (f y)
  | .i2str x => .i2str (f x)
  | .rng x => .rng (f x)
  | .next x => .next (f x)
  | .copy s d x => .copy s (f d) (f x)
  | .clr s z x => .clr s z (f x)
  | .apps e b s x => .apps e b (f s) (f x)
  | .callf g xs => .callf g (xs.map f)
  | .callv g xs => .callv (f g) (xs.map f)
  | .bad => .bad

/-- Parts laid into cells. -/
def fillA (c : List Value) : List (Nat × Nat × Value) → Option (List Value)
  | [] => some c
  | (o, n, v) :: r =>
    if v.cells.toList.length = n ∧ o + n ≤ c.length then fillA (c.take o ++ v.cells.toList ++ c.drop (o + n)) r else none

/-- Cell o of c. -/
def cellA (H : AHeap) (b o : Nat) : Option Value :=
  match H.get b with
  | some (.cells _ _ _ c _) => c[o]?
  | _ => none
def rangeA (H : AHeap) (b o n : Nat) : Option (List Value) :=
  match H.get b with
  | some (.cells _ _ _ c _) => if o + n ≤ c.length then some ((c.drop o).take n) else none
  | _ => none

def intA (op : BinOp) (k : IntKind) (a b : Int) : Option Value :=
  match op with
  | .add => some (.int k (k.wrap (a + b)))
  | .sub => some (.int k (k.wrap (a - b)))
  | .mul => some (.int k (k.wrap (a * b)))
  | .quo => if b = 0 then none else some (.int k (k.wrap (a.tdiv b)))
  | .rem => if b = 0 then none else some (.int k (a.tmod b))
  | .and => some (.int k (k.wrap (BitVec.ofInt k.bits a &&& BitVec.ofInt k.bits b).toNat))
  | .or => some (.int k (k.wrap (BitVec.ofInt k.bits a ||| BitVec.ofInt k.bits b).toNat))
  | .xor => some (.int k (k.wrap (BitVec.ofInt k.bits a ^^^ BitVec.ofInt k.bits b).toNat))
  | .andNot => some (.int k (k.wrap (BitVec.ofInt k.bits a &&& ~~~ BitVec.ofInt k.bits b).toNat))
  | .eql => some (.bool (a == b))
  | .neq => some (.bool (a != b))
  | .lss => some (.bool (decide (a < b)))
  | .leq => some (.bool (decide (a ≤ b)))
  | .gtr => some (.bool (decide (b < a)))
  | .geq => some (.bool (decide (b ≤ a)))
  | _ => none

def strA (op : BinOp) (a b : ByteArray) : Option Value :=
  match op with
  | .add => if a.size + b.size ≤ 140737488355328 then some (.string (a ++ b)) else none
  | .eql => some (.bool (decide (a = b)))
  | .neq => some (.bool (!decide (a = b)))
  | .lss => some (.bool (Op.bytesLess a.data.toList b.data.toList))
  | .leq => some (.bool (Op.bytesLess a.data.toList b.data.toList || decide (a = b)))
  | .gtr => some (.bool (!(Op.bytesLess a.data.toList b.data.toList || decide (a = b))))
  | .geq => some (.bool (!Op.bytesLess a.data.toList b.data.toList))
  | _ => none

def binA (op : BinOp) (x y : Value) : Option Value :=
  match x, y with
  | .int k a, .int k' b =>
    match op with
    | .shl => if 0 ≤ b then some (.int k (k.wrap (a * 2 ^ (min b.toNat k.bits)))) else none
    | .shr => if 0 ≤ b then some (.int k (a.fdiv (2 ^ (min b.toNat k.bits)))) else none
    | _ => if k = k' then intA op k a b else none
  | .string a, .string b => strA op a b
  | _, _ => none

/-- Equality of values that are no numbers and no strings, by the kind of their type: bool, pointer, slice, map, func, interface. -/
def eqA (k : Nat) (x y : Value) : Option Bool :=
  match k, x, y with
  | 0, .bool a, .bool b => some (a == b)
  | 1, .pointer none, .pointer b => some b.isNone
  | 1, .pointer (some _), .pointer none => some false
  | 2, .slice none _ _, .slice b _ _ => some b.isNone
  | 2, .slice (some _) _ _, .slice none _ _ => some false
  | 3, .map none, .map b => some b.isNone
  | 3, .map (some _), .map none => some false
  | 4, .nilFunc, .nilFunc => some true
  | 4, .nilFunc, .func _ _ _ => some false
  | 4, .func _ _ _, .nilFunc => some false
  | 5, .nilIface, .iface _ _ => some false
  | 5, .iface _ _, .nilIface => some false
  | 6, .nilIface, .iface _ _ => some false
  | 6, .iface _ _, .nilIface => some false
  | 6, .nilIface, .nilIface => some true
  | _, _, _ => none

def bytesOf : List Value → Option (List UInt8)
  | [] => some []
  | .int .u8 n :: r => (bytesOf r).map (UInt8.ofNat n.toNat :: ·)
  | _ :: _ => none

def lenA : Bool → Value → Option Nat
  | false, .slice _ n _ => some n
  | true, .string s => some s.size
  | _, _ => none

/-- The bounds of a slice expression: an index that is an int from 0 to a bound. -/
def bndA (x : Option Value) (dflt top : Nat) : Option Nat :=
  match x with
  | none => some dflt
  | some (.int _ i) => if 0 ≤ i ∧ i ≤ (top : Int) then some i.toNat else none
  | _ => none

/-- A big enough bound on what a slice holds. -/
def maxN : Nat := 4294967296

def ptr (b o : Nat) : Value := .pointer (some ⟨b, o, none⟩)
def slc (b o n k : Nat) : Value := .slice (some ⟨b, o, none⟩) n k

/-- The cells of a slice's elements. -/
def elemsA (H : AHeap) (esz : Nat) : Value → Option (List Value)
  | .slice none _ _ => some []
  | .slice (some ⟨b, o, none⟩) n _ =>
    match H.get b with
    | some (.cells _ _ _ c _) => if o + n * esz ≤ c.length then some ((c.drop o).take (n * esz)) else none
    | _ => none
  | .slice (some ⟨_, _, some _⟩) n _ => if n = 0 then some [] else none
  | _ => none

/-- Are two cells the same, by their kinds: a bool, a number, a text? -/
def eqC (k : Nat) (x y : Value) : Option Bool :=
  match k, x, y with
  | 0, .bool a, .bool b => some (a == b)
  | 1, .int k a, .int k' b => if k = k' then some (a == b) else none
  | 2, .string a, .string b => some (decide (a = b))
  | _, _, _ => none
def eqCs : List Nat → List Value → List Value → Option Bool
  | [], [], [] => some true
  | c :: cs, x :: xs, y :: ys => match eqC c x y, eqCs cs xs ys with
    | some a, some b => some (a && b)
    | _, _ => none
  | _, _, _ => none

/-- append: a new block; the old one is gone where there may have been room in it. -/
def appA (H : AHeap) (e : TypeId) (esz bytes : Nat) (s : Value) (m : Nat) (news : List Value) : Option (Value × AHeap) :=
  match s with
  | .slice none n k => if n = 0 ∧ k = 0 then (if m = 0 then some (.slice none 0 0, H) else if m * bytes ≤ 140737488355328 ∧ m ≤ 140737488355328 then some (slc H.n 0 m m, H.alloc (.cells true true esz news e)) else none) else none
  | .slice (some ⟨b, o, none⟩) n k =>
    if m = 0 then some (s, H)
    else if (n + m) * bytes ≤ 140737488355328 ∧ n + m ≤ 140737488355328 then
      match H.get b with
      | some (.cells own room esz' c e') =>
        if esz' = esz ∧ e' = e ∧ o + k * esz ≤ c.length then
          let r := slc H.n 0 (n + m) (n + m)
          let new := AO.cells true true esz ((c.drop o).take (n * esz) ++ news) e
          if n + m ≤ k then (if own then some (slc b o (n + m) k, H.set b (.cells true room esz (c.take (o + n * esz) ++ news ++ c.drop (o + n * esz + news.length)) e)) else none)
          else if room = false ∨ o + k * esz < c.length then some (r, H.alloc new)
          else if own then some (r, (H.set b .dead).alloc new)
          else none
        else none
      | _ => none
    else none
  | .slice (some ⟨_, _, some _⟩) n k => if n = 0 ∧ k = 0 then (if m = 0 then some (s, H) else if m * bytes ≤ 140737488355328 ∧ m ≤ 140737488355328 then some (slc H.n 0 m m, H.alloc (.cells true true esz news e)) else none) else none
  | _ => none

def asem : AOp Value → AHeap → Option (Value × AHeap)
  | .mov x, H => some (x, H)
  | .pick c a b, H => match c with
    | .bool t => some (if t then a else b, H)
    | _ => none
  | .new e esz z, H => if z.all Value.oneCell' then some (ptr H.n 0, H.alloc (.cells true false esz z e)) else none
  | .box e esz x, H => if x.cells.toList.all Value.oneCell' then some (ptr H.n 0, H.alloc (.cells true false esz x.cells.toList e)) else none
  | .build z ps, H => (fillA z ps).map fun c => (.agg c.toArray, H)
  | .bslice e esz n z ps, H => match fillA z ps with
    | some c => if c.all Value.oneCell' ∧ c.length = n * esz then some (slc H.n 0 n n, H.alloc (.cells true false esz c e)) else none
    | none => none
  | .load1 x, H => match x with
    | .pointer (some ⟨b, o, none⟩) => (cellA H b o).map fun v => (v, H)
    | _ => none
  | .loadn n x, H => match x with
    | .pointer (some ⟨b, o, none⟩) => (rangeA H b o n).map fun c => (.agg c.toArray, H)
    | _ => none
  | .store1 a x, H => match a with
    | .pointer (some ⟨b, o, none⟩) => match H.get b with
      | some (.cells true room esz c e) => if o < c.length ∧ x.oneCell' then some (undef, H.set b (.cells true room esz (c.set o x) e)) else none
      | _ => none
    | _ => none
  | .storen n a x, H => match a with
    | .pointer (some ⟨b, o, none⟩) => match H.get b with
      | some (.cells true room esz c e) =>
        if o + n ≤ c.length ∧ x.cells.toList.length = n ∧ x.cells.toList.all Value.oneCell' then some (undef, H.set b (.cells true room esz (c.take o ++ x.cells.toList ++ c.drop (o + n)) e)) else none
      | _ => none
    | _ => none
  | .nilck x, H => match x with
    | .pointer (some _) => some (x, H)
    | .iface _ _ => some (x, H)
    | .func (.func _) _ _ => some (x, H)
    | _ => none
  | .bin op x y, H => (binA op x y).map fun v => (v, H)
  | .eqv k neg x y, H => (eqA k x y).map fun b => (.bool (if neg then !b else b), H)
  | .un op x, H => match op, x with
    | .not, .bool b => some (.bool (!b), H)
    | .neg, .int k n => some (.int k (k.wrap (0 - n)), H)
    | .xor, .int k n => some (.int k (k.wrap (BitVec.ofInt k.bits (if k.signed then -1 else k.max) ^^^ BitVec.ofInt k.bits n).toNat), H)
    | _, _ => none
  | .i2i k x, H => match x with
    | .int _ n => some (.int k (k.wrap n), H)
    | _ => none
  | .s2s x, H => match x with
    | .string s => some (.string s, H)
    | _ => none
  | .s2b e x, H => match x with
    | .string s => some (slc H.n 0 s.size s.size, H.alloc (.cells true true 1 (s.data.toList.map fun b => .int .u8 b.toNat) e))
    | _ => none
  | .b2s x, H => match elemsA H 1 x with
    | some c => match bytesOf c with
      | some l => some (.string ⟨l.toArray⟩, H)
      | none => none
    | none => none
  | .iface t x, H => some (.iface t x, H)
  | .mkfn fn xs ys, H => some (.func fn xs.toArray ys.toArray, H)
  | .mksl e esz bytes z l c, H => match l, c with
    | .int .i64 l, .int .i64 c => if 0 ≤ l ∧ l ≤ c ∧ bytes * c ≤ 140737488355328 ∧ c ≤ 140737488355328 ∧ z.length = esz ∧ z.all Value.oneCell' then
        some (slc H.n 0 l.toNat c.toNat, H.alloc (.cells true false esz (List.replicate c.toNat z).flatten e)) else none
    | _, _ => none
  | .slstr x lo hi, H => match x with
    | .string s => match bndA hi s.size s.size with
      | some h => match bndA lo 0 h with
        | some l => some (.string (s.extract l h), H)
        | none => none
      | none => none
    | _ => none
  | .slsl esz x lo hi mx, H => match x with
    | .slice a n k => match bndA mx k k with
      | some m => match bndA hi n m with
        | some h => match bndA lo 0 h with
          | some l => match a with
            | none => some (.slice none 0 0, H)
            | some ⟨b, o, none⟩ => match H.get b with
              | some (.cells _ room esz' _ _) => if esz' = esz ∨ room = false then some (slc b (o + l * esz) (h - l) (m - l), H) else none
              | _ => none
            | some ⟨b, o, some q⟩ => if n = 0 ∧ k = 0 then some (.slice (some ⟨b, o, some q⟩) 0 0, H) else none
          | none => none
        | none => none
      | none => none
    | _ => none
  | .faddr off x, H => match x with
    | .pointer (some ⟨b, o, none⟩) => some (ptr b (o + off), H)
    | _ => none
  | .fld1 off x, H => match x with
    | .agg cs => cs.toList[off]?.map fun v => (v, H)
    | _ => none
  | .fldn off n x, H => match x with
    | .agg cs => if off + n ≤ cs.size then some (.agg ((cs.toList.drop off).take n).toArray, H) else none
    | _ => none
  | .iaddr esz x i, H => match x, i with
    | .slice (some ⟨b, o, none⟩) n _, .int _ i => if 0 ≤ i ∧ i < (n : Int) then some (ptr b (o + i.toNat * esz), H) else none
    | _, _ => none
  | .idxs x i, H => match x, i with
    | .string s, .int _ i => if 0 ≤ i ∧ i < (s.size : Int) then (s.data.toList[i.toNat]?).map fun b => (.int .u8 b.toNat, H) else none
    | _, _ => none
  | .assert t z ok x, H => match x with
    | .iface u v => if u = t then some (if ok then .tuple #[v, .bool true] else v, H) else if ok then some (.tuple #[z, .bool false], H) else none
    | .nilIface => if ok then some (.tuple #[z, .bool false], H) else none
    | _ => none
  | .extract x i, H => match x with
    | .tuple vs => vs.toList[i]?.map fun v => (v, H)
    | _ => none
  | .len str x, H => (lenA str x).map fun n => (.int .i64 n, H)
  | .app e esz bytes s x, H => match x with
    | .slice _ m _ => match elemsA H esz x with
      | some news => appA H e esz bytes s m news
      | none => none
    | _ => none
  | .iaddrp esz n x i, H => match x, i with
    | .pointer (some ⟨b, o, none⟩), .int _ i => if 0 ≤ i ∧ i < (n : Int) then some (ptr b (o + i.toNat * esz), H) else none
    | _, _ => none
  | .idxa agg esz n x i, H => match x, i with
    | .agg cs, .int _ i => if 0 ≤ i ∧ i < (n : Int) then
        (if agg then (if i.toNat * esz + esz ≤ cs.size then some (.agg ((cs.toList.drop (i.toNat * esz)).take esz).toArray, H) else none)
        else cs.toList[i.toNat * esz]?.map fun v => (v, H)) else none
    | _, _ => none
  | .slarr esz n x lo hi mx, H => match x with
    | .pointer (some ⟨b, o, none⟩) => match bndA mx n n with
      | some m => match bndA hi n m with
        | some h => match bndA lo 0 h with
          | some l => some (slc b (o + l * esz) (h - l) (m - l), H)
          | none => none
        | none => none
      | none => none
    | _ => none
  | .eqs cs neg x y, H => match x, y with
    | .agg xs, .agg ys => (eqCs cs xs.toList ys.toList).map fun b => (.bool (if neg then !b else b), H)
    | _, _ => none
  | .mm mx x y, H => match x, y with
    | .int k a, .int k' b => if k = k' then some (.int k (if mx then (if b > a then b else a) else (if b < a then b else a)), H) else none
    | _, _ => none
  | .i2str x, H => match x with
    | .int _ n => some (.string (Utf8.encode n), H)
    | _ => none
  | .rng x, H => match x with
    | .string s => some (ptr H.n 0, H.alloc (.obj true (.stringIter s 0)))
    | _ => none
  | .next x, H => match x with
    | .pointer (some ⟨b, 0, none⟩) => match H.get b with
      | some (.obj true (.stringIter s pos)) =>
        if pos < s.size then some (.tuple #[.bool true, .int .i64 pos, .int .i32 (Utf8.decode s pos).1], H.set b (.obj true (.stringIter s (pos + (Utf8.decode s pos).2))))
        else some (.tuple #[.bool false], H)
      | _ => none
    | _ => none
  | .copy esz d x, H => match d, x with
    | .slice none n k, .slice _ _ _ => if n = 0 ∧ k = 0 then some (.int .i64 0, H) else none
    | .slice (some ⟨b, o, none⟩) n _, .slice _ m _ => match elemsA H esz x, H.get b with
      | some l, some (.cells own room esz' c e) =>
        if min m n = 0 then some (.int .i64 0, H)
        else if own = true ∧ o + min m n * esz ≤ c.length then some (.int .i64 (min m n : Nat), H.set b (.cells own room esz' (c.take o ++ l.take (min m n * esz) ++ c.drop (o + min m n * esz)) e)) else none
      | _, _ => none
    | _, _ => none
  | .clr esz z x, H => match x with
    | .slice none n k => if n = 0 ∧ k = 0 then some (.tuple #[], H) else none
    | .slice (some ⟨b, o, none⟩) n _ => if n = 0 then some (.tuple #[], H) else match H.get b with
      | some (.cells own room esz' c e) =>
        if own = true ∧ o + n * esz ≤ c.length ∧ z.length = esz ∧ z.all Value.oneCell' then some (.tuple #[], H.set b (.cells own room esz' (c.take o ++ (List.replicate n z).flatten ++ c.drop (o + n * esz)) e)) else none
      | _ => none
    | _ => none
  | .apps e bytes s x, H => match x with
    | .string t => appA H e 1 bytes s t.size (t.data.toList.map fun b => .int .u8 b.toNat)
    | _ => none
  | .mark x, H => match x with
    | .slice (some ⟨b, _, none⟩) _ _ => match H.get b with
      | some (.cells true _ _ _ _) => some (x, H)
      | _ => none
    | _ => none
  | _, _ => none


/-! ### From the model's operations -/

def isAggT (P : Program) (t : TypeId) : Option Bool := (P.underlying t).map fun d => match d with
  | .struct _ => true
  | .array _ _ => true
  | _ => false
def plain1 : Value → Bool
  | .bool _ | .int _ _ | .string _ | .pointer none | .map none | .nilFunc | .nilIface => true
  | .slice none 0 0 => true
  | _ => false
/-- A value that leads nowhere. -/
def plainV : Value → Bool
  | .agg cs => cs.toList.all plain1
  | .tuple cs => cs.toList.all plain1
  | v => plain1 v
def zeroT (P : Program) (t : TypeId) : Option Value := (P.info? t).bind fun i => match i.zero with
  | some z => if plainV z then some z else none
  | none => none
def sizeT (P : Program) (t : TypeId) : Option Nat := (P.info? t).map (·.size)
def bytesT (P : Program) (t : TypeId) : Option Nat := (P.info? t).map (·.bytes)

def placesT (P : Program) (fs : Array Field) : List (Nat × Operand) → Option (List (Nat × Nat × Operand))
  | [] => some []
  | (i, x) :: r => match fs[i]? with
    | some f => match sizeT P f.type, placesT P fs r with
      | some n, some l => some ((f.offset, n, x) :: l)
      | _, _ => none
    | none => none

def elemOfT (P : Program) (t : TypeId) : Option TypeId := match P.underlying t with
  | some (.slice e) => some e
  | _ => none

def isU8 (P : Program) (e : TypeId) : Bool := match P.underlying e with
  | some (.int .u8) => true
  | _ => false

def isConst : Operand → Bool
  | .const _ => true
  | _ => false

/-- The kinds of the cells of a type whose values are compared cell by cell. -/
def flatFs (f : TypeId → Option (List Nat)) : List Field → Nat → Option (List Nat)
  | [], _ => some []
  | fd :: r, off => if fd.offset = off ∧ fd.name ≠ "_" then match f fd.type with
    | some l => (flatFs f r (off + l.length)).map (l ++ ·)
    | none => none
    else none
def flatT (P : Program) : Nat → TypeId → Option (List Nat)
  | 0, _ => none
  | d + 1, t => match P.underlying t with
    | some .bool => some [0]
    | some (.int _) => some [1]
    | some .string => some [2]
    | some (.struct fs) => if P.stoodInHeld t then none else flatFs (fun u => match flatT P d u with
      | some l => if sizeT P u = some l.length then some l else none
      | none => none) fs.toList 0
    | some (.array n e) => match flatT P d e with
      | some l => if sizeT P e = some l.length then some (List.replicate n l).flatten else none
      | none => none
    | _ => none
def eqsT (P : Program) (t : TypeId) : Option (List Nat) := if P.eqGuardType P.depth t then none else flatT P 20 t

def compOp (P : Program) (o : Oper) : AOp Operand :=
  match o.op with
  | .move x => .mov x
  | .assign x => .mov x
  | .pick c a b => .pick c a b
  | .alloc e => match zeroT P e, sizeT P e with
    | some z, some n => .new e n z.cells.toList
    | _, _ => .bad
  | .box e x => match sizeT P e with
    | some n => .box e n x
    | none => .bad
  | .build t ps => match zeroT P t, P.underlying t with
    | some z, some (.struct fs) => match fs.toList.mapM (fun f => sizeT P f.type), placesT P fs ps.toList with
      | some _, some qs => .build z.cells.toList qs
      | _, _ => .bad
    | some z, some (.array _ e) => match sizeT P e with
      | some n => .build z.cells.toList (ps.toList.map fun p => (p.1 * n, n, p.2))
      | none => .bad
    | _, _ => .bad
  | .buildSlice t len ps => match elemOfT P t with
    | some e => match zeroT P e, sizeT P e with
      | some z, some n => if z.cells.size = n ∧ 0 < n ∧ len * n ≤ 16777216 then .bslice e n len (List.replicate len z.cells.toList).flatten (ps.toList.map fun p => (p.1 * n, n, p.2)) else .bad
      | _, _ => .bad
    | none => .bad
  | .load t x => match isAggT P t, sizeT P t with
    | some true, some n => .loadn n x
    | some false, _ => .load1 x
    | _, _ => .bad
  | .store t a x => match sizeT P t with
    | some n => if n = 1 ∧ isAggT P t = some false then .store1 a x else .storen n a x
    | none => .bad
  | .nilCheck x => .nilck x
  | .binOp op t x y _ => match op with
    | .eql => match P.underlying t with
      | some (.int _) => .bin op x y
      | some .string => .bin op x y
      | some .bool => .eqv 0 false x y
      | some (.pointer _) => .eqv 1 false x y
      | some (.slice _) => .eqv 2 false x y
      | some (.map _ _) => .eqv 3 false x y
      | some (.func _ _ _) => .eqv 4 false x y
      | some (.interface _) => .eqv (if isConst x || isConst y then 6 else 5) false x y
      | some (.struct _) => match eqsT P t with
        | some cs => .eqs cs false x y
        | none => .bad
      | some (.array _ _) => match eqsT P t with
        | some cs => .eqs cs false x y
        | none => .bad
      | _ => .bad
    | .neq => match P.underlying t with
      | some (.int _) => .bin op x y
      | some .string => .bin op x y
      | some .bool => .eqv 0 true x y
      | some (.pointer _) => .eqv 1 true x y
      | some (.slice _) => .eqv 2 true x y
      | some (.map _ _) => .eqv 3 true x y
      | some (.func _ _ _) => .eqv 4 true x y
      | some (.interface _) => .eqv (if isConst x || isConst y then 6 else 5) true x y
      | some (.struct _) => match eqsT P t with
        | some cs => .eqs cs true x y
        | none => .bad
      | some (.array _ _) => match eqsT P t with
        | some cs => .eqs cs true x y
        | none => .bad
      | _ => .bad
    | _ => .bin op x y
  | .unOp op _ x => .un op x
  | .convert src dst x => match P.underlying src, P.underlying dst with
    | some (.int _), some (.int k) => .i2i k x
    | some (.int _), some .string => .i2str x
    | some .string, some .string => .s2s x
    | some .string, some (.slice e) => if isU8 P e then .s2b e x else .bad
    | some (.slice e), some .string => if isU8 P e then .b2s x else .bad
    | some (.slice _), some (.slice e) => if isU8 P e && src == dst then .mark x else .bad
    | _, _ => .bad
  | .makeInterface t x => match P.underlying t with
    | some (.interface _) => .bad
    | some _ => .iface t x
    | none => .bad
  | .makeFunc fn xs ys => .mkfn fn xs.toList ys.toList
  | .makeSlice t l c => match elemOfT P t with
    | some e => match zeroT P e, sizeT P e, bytesT P e with
      | some z, some n, some b => if z.cells.size = n ∧ 0 < n then .mksl e n b z.cells.toList l c else .bad
      | _, _, _ => .bad
    | none => .bad
  | .slice t x lo hi mx => match P.underlying t with
    | some .string => if mx.isNone then .slstr x lo hi else .bad
    | some (.slice e) => match sizeT P e with
      | some n => if mx.isSome && hi.isNone then .bad else .slsl n x lo hi mx
      | none => .bad
    | some (.array len e) => match sizeT P e with
      | some n => if mx.isSome && hi.isNone then .bad else .slarr n len x lo hi mx
      | none => .bad
    | _ => .bad
  | .fieldAddr t x f => match P.underlying t with
    | some (.struct fs) => match fs[f]? with
      | some fd => if (sizeT P fd.type).getD 0 = 0 then .bad else .faddr fd.offset x
      | none => .bad
    | _ => .bad
  | .field t x f => match P.underlying t with
    | some (.struct fs) => match fs[f]? with
      | some fd => match isAggT P fd.type, sizeT P fd.type with
        | some true, some n => .fldn fd.offset n x
        | some false, _ => .fld1 fd.offset x
        | _, _ => .bad
      | none => .bad
    | _ => .bad
  | .indexAddr t x i => match elemOfT P t with
    | some e => match sizeT P e with
      | some n => .iaddr n x i
      | none => .bad
    | none => match P.underlying t with
      | some (.array len e) => match sizeT P e with
        | some n => .iaddrp n len x i
        | none => .bad
      | _ => .bad
  | .index t x i => match P.underlying t with
    | some .string => .idxs x i
    | some (.array len e) => match isAggT P e, sizeT P e with
      | some a, some n => .idxa a n len x i
      | _, _ => .bad
    | _ => .bad
  | .typeAssert x _ u ok => match P.underlying u with
    | some (.interface _) => .bad
    | some _ => match zeroT P u with
      | some z => .assert u z ok x
      | none => .bad
    | none => .bad
  | .extract x i => .extract x i
  | .range t x => match P.underlying t with
    | some .string => .rng x
    | _ => .bad
  | .next x str => if str then .next x else .bad
  | .call c => match c.callee with
    | .value (.func f) => .callf f c.args.toList
    | .value f => .callv f c.args.toList
    | .builtin .len => match c.args.toList, c.argTypes.toList with
      | [x], [t] => match P.underlying t with
        | some .string => .len true x
        | some (.slice _) => .len false x
        | _ => .bad
      | _, _ => .bad
    | .builtin .append => match c.args.toList, c.argTypes.toList with
      | [s, x], [t, u] => match elemOfT P t, P.underlying u with
        | some e, some (.slice _) => match zeroT P e, sizeT P e, bytesT P e with
          | some z, some n, some b => if z.cells.size = n ∧ 0 < n then .app e n b s x else .bad
          | _, _, _ => .bad
        | some e, some .string => match zeroT P e, sizeT P e, bytesT P e with
          | some z, some 1, some b => if z.cells.size = 1 && isU8 P e then .apps e b s x else .bad
          | _, _, _ => .bad
        | _, _ => .bad
      | _, _ => .bad
    | .builtin .max => match c.args.toList with
      | [x, y] => .mm true x y
      | _ => .bad
    | .builtin .min => match c.args.toList with
      | [x, y] => .mm false x y
      | _ => .bad
    | .builtin .copy => match c.args.toList, c.argTypes.toList with
      | [d, s], [t, u] => match elemOfT P t, P.underlying u with
        | some e, some (.slice _) => match sizeT P e with
          | some n => .copy n d s
          | none => .bad
        | _, _ => .bad
      | _, _ => .bad
    | .builtin .clear => match c.args.toList, c.argTypes.toList with
      | [x], [t] => match elemOfT P t with
        | some e => match zeroT P e, sizeT P e with
          | some z, some n => if z.cells.size = n ∧ 0 < n then .clr n z.cells.toList x else .bad
          | _, _ => .bad
        | none => .bad
      | _, _ => .bad
    | _ => .bad
  | _ => .bad

end Go.AM
