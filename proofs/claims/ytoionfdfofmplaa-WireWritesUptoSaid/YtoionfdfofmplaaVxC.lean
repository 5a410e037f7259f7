/- The engine, part C: one operation on abstract values; regions; code. Nothing is proved here. -/
import Derived.Test.YtoionfdfofmplaaVxB
set_option autoImplicit false
set_option linter.unusedVariables false
set_option linter.unusedSimpArgs false
namespace Go.Vx
open Go

def mo {α R : Type} (x : Option α) (f : R) (k : α → R) : R := match x with | some a => k a | none => f

/-- A result that may hang on a Boolean or on a partial function. -/
inductive Res (A : Type) : Type 1 where
  | fail
  | ok (a : A)
  | opt {α : Type} (x : Option α) (k : α → Res A)
  | ite (b : Bool) (t e : Res A)
  | sum {α β : Type} (x : α ⊕ β) (l : α → Res A) (r : β → Res A)

def Res.run {A R : Type} : Res A → R → (A → R) → R
  | .fail, f, _ => f
  | .ok a, _, k => k a
  | .opt x g, f, k => mo x f fun a => (g a).run f k
  | .ite b t e, f, k => cond b (t.run f k) (e.run f k)
  | .sum x l r, f, k => match x with
    | .inl a => (l a).run f k
    | .inr b => (r b).run f k

def kix : IntKind → Nat
  | .i8 => 0 | .i16 => 1 | .i32 => 2 | .i64 => 3 | .u8 => 4 | .u16 => 5 | .u32 => 6 | .u64 => 7
def kEq (a b : IntKind) : Bool := Nat.beq (kix a) (kix b)

def bcl : BinOp → Nat
  | .add | .sub | .mul => 0
  | .quo | .rem => 1
  | .and | .or | .xor | .andNot => 2
  | .shl | .shr => 3
  | .eql | .neq | .lss | .leq | .gtr | .geq => 4

def ibin (op : BinOp) (k : IntKind) (a b : Int) : Int :=
  match op with
  | .add => k.wrap (a + b)
  | .sub => k.wrap (a - b)
  | .mul => k.wrap (a * b)
  | .quo => k.wrap (a.tdiv b)
  | .rem => a.tmod b
  | .and => k.wrap ((BitVec.ofInt k.bits a &&& BitVec.ofInt k.bits b).toNat : Int)
  | .or => k.wrap ((BitVec.ofInt k.bits a ||| BitVec.ofInt k.bits b).toNat : Int)
  | .xor => k.wrap ((BitVec.ofInt k.bits a ^^^ BitVec.ofInt k.bits b).toNat : Int)
  | .andNot => k.wrap ((BitVec.ofInt k.bits a &&& ~~~(BitVec.ofInt k.bits b)).toNat : Int)
  | .shl => k.wrap (a * 2 ^ (min b.toNat k.bits))
  | .shr => a.fdiv (2 ^ (min b.toNat k.bits))
  | _ => 0

def icmp (op : BinOp) (a b : Int) : Bool :=
  match op with
  | .eql => a == b
  | .neq => a != b
  | .lss => decide (a < b)
  | .leq => decide (a ≤ b)
  | .gtr => decide (a > b)
  | .geq => decide (a ≥ b)
  | _ => false

def ineg (k : IntKind) (a : Int) : Int := k.wrap (0 - a)
def inot (k : IntKind) (a : Int) : Int := k.wrap ((BitVec.ofInt k.bits (if k.signed then -1 else k.max) ^^^ BitVec.ofInt k.bits a).toNat : Int)

/-- Are they the same? Only where the model's '==' tells without looking into memory. -/
def eqAV : AV → AV → Option Bool
  | .int k a, .int k' b => bif kEq k k' then some (a == b) else none
  | .bool a, .bool b => some (a == b)
  | .str a, .str b => some (a == b)
  | .ints k n l, .ints k' n' l' => bif kEq k k' && Nat.beq n n' then some (decide (l = l')) else none
  | .nilp, .nilp => some true
  | .nilp, .ptr _ _ _ => some false
  | .ptr _ _ _, .nilp => some false
  | .nilif, .nilif => some true
  | .nilif, .ifc _ _ => some false
  | .ifc _ _, .nilif => some false
  | .nils, .nils => some true
  | .sl _ _ _ _ _ _, .nils => some false
  | .nils, .sl _ _ _ _ _ _ => some false
  | .nilfn, .nilfn => some true
  | .clo _ _, .nilfn => some false
  | _, _ => none

/-- The same, part by part; structs field by field. -/
def eqF (e : TypeId → AV → AV → Option Bool) : List Field → List AV → List AV → Option Bool
  | [], [], [] => some true
  | f :: fs, x :: l, y :: r => cond (f.name != "_") (match e f.type x y with
    | some p => match eqF e fs l r with
      | some q => some (p && q)
      | none => none
    | none => none) none
  | _, _, _ => none
def eqD (P : Program) : Nat → TypeId → AV → AV → Option Bool
  | n + 1, t, .agg l, .agg r => match P.underlying t with
    | some (.struct fs) => cond (P.stoodInHeld t) none (eqF (eqD P n) fs.toList l r)
    | _ => none
  | _, _, x, y => eqAV x y

def inR (k : IntKind) (n : Int) : Bool := decide (k.min ≤ n ∧ n ≤ k.max)

/-- A constant of the code. -/
def ofV : Value → Option AV
  | .int k n => bif inR k n then some (.int k n) else none
  | .bool b => some (.bool b)
  | .string s => bif inR .i64 s.size then some (.str s) else none
  | .pointer none => some .nilp
  | .slice none 0 0 => some .nils
  | .nilFunc => some .nilfn
  | .nilIface => some .nilif
  | _ => none

def lk (d : Nat) : List (Nat × AV) → Option AV
  | [] => none
  | x :: l => cond (Nat.beq x.1 d) (some x.2) (lk d l)

def evO (gl : Nat → Option AV) (tm : List (Nat × AV)) : Operand → Option AV
  | .tmp t => lk t tm
  | .const v => ofV v
  | .global g => gl g
  | .func f => some (.clo f [])

/-- Numbers of one kind off the front. -/
def takeI (k : IntKind) : Nat → List Value → Option (List Int × List Value)
  | 0, cs => some ([], cs)
  | n + 1, .int k' x :: cs => bif kEq k k' && inR k x then (match takeI k n cs with | some r => some (x :: r.1, r.2) | none => none) else none
  | _ + 1, _ => none

def goN (p : List Value → Option (AV × List Value)) : Nat → List Value → Option (List AV × List Value)
  | 0, cs => some ([], cs)
  | m + 1, cs => match p cs with
    | some r => match goN p m r.2 with
      | some q => some (r.1 :: q.1, q.2)
      | none => none
    | none => none

def goF (p : TypeId → List Value → Option (AV × List Value)) : List Field → List Value → Option (List AV × List Value)
  | [], cs => some ([], cs)
  | f :: fs, cs => match p f.type cs with
    | some r => match goF p fs r.2 with
      | some q => some (r.1 :: q.1, q.2)
      | none => none
    | none => none

/-- A value of a type, read off its cells (the zero values of the table of types). -/
def parse (P : Program) : Nat → TypeId → List Value → Option (AV × List Value)
  | 0, _, _ => none
  | d + 1, t, cs =>
    match P.underlying t with
    | some (.array n e) =>
      match P.underlying e with
      | some (.int k) => match takeI k n cs with | some r => some (.ints k n r.1, r.2) | none => none
      | _ => match goN (parse P d e) n cs with | some q => some (.agg q.1, q.2) | none => none
    | some (.struct fs) => match goF (parse P d) fs.toList cs with | some q => some (.agg q.1, q.2) | none => none
    | _ => match cs with
      | v :: cs => match ofV v with | some a => some (a, cs) | none => none
      | [] => none

def zeroAV (P : Program) (t : TypeId) : Option AV :=
  match P.info? t with
  | some i => match i.zero with
    | some v => match parse P 50 t v.cells.toList with
      | some r => match r.2 with
        | [] => bif chk P r.1 t then some r.1 else none
        | _ :: _ => none
      | none => none
    | none => none
  | none => none

/-- Is the value of an aggregate type? -/
def wide : AV → Bool
  | .ints _ _ _ => true
  | .agg _ => true
  | .rows _ _ => true
  | _ => false

/-- What an operation does: a value, a new block, a block turned. -/
inductive Eff where
  | val (v : AV)
  | new (ty : TypeId) (row : Bool) (cap : Nat) (T : AV) (mk : Nat → AV)
  | upd (b : Nat) (T : AV)
  | grow (b : Option Nat) (T : AV) (mk : Nat → AV)

/-- A name is dropped. -/
def del (b : Option Nat) (mem : List (Nat × AV)) : List (Nat × AV) :=
  match b with
  | none => mem
  | some b => mem.filter fun x => !Nat.beq x.1 b

/-- The parts of a composite laid into a zero value. -/
def fillAV (P : Program) (t : TypeId) : AV → List (Nat × AV) → Option AV
  | z, [] => some z
  | z, (i, v) :: ps => match stepT P t i with
    | some (_, e) => bif chk P v e then (match put1 z i v with | some z' => fillAV P t z' ps | none => none) else none
    | none => none

def evL (ev : Operand → Option AV) : List Operand → Option (List AV)
  | [] => some []
  | o :: l => match ev o with
    | some v => match evL ev l with | some r => some (v :: r) | none => none
    | none => none

def evP (ev : Operand → Option AV) : List (Nat × Operand) → Option (List (Nat × AV))
  | [] => some []
  | (i, o) :: l => match ev o with
    | some v => match evP ev l with | some r => some ((i, v) :: r) | none => none
    | none => none

abbrev Ct := List AV → Res AV

/-- How many elements a row has. -/
def rowN : AV → Nat
  | .ints _ n _ => n
  | .agg l => l.length
  | .rows n _ => n
  | .vec _ l => l.length
  | _ => 0

/-- A part of what a row holds. -/
def cutT (lo n : Nat) : AV → Option AV
  | .ints k _ l => some (.ints k n ((l.drop lo).take n))
  | .vec c l => some (.vec c ((l.drop lo).take n))
  | _ => none
/-- Data of one code, as a row's content. -/
def flatT (c : Tc) (x : List c.T) : AV :=
  match c, x with
  | .int k, x => .ints k x.length x
  | c, x => .vec c x
/-- What a slice of flat data holds, and the elements' type. -/
def rowC (get : Nat → Option AV) (v : AV) : Option (AV × TypeId) :=
  match v with
  | .gs b _ te => match get b with
    | some T => cond (pl T) (some (T, te)) none
    | none => none
  | .gp b lo n te _ _ => match get b with
    | some T => match cutT lo n T with
      | some U => some (U, te)
      | none => none
    | none => none
  | .sl b p off len _ te => match get b with
    | some T => match getP T p with
      | some (.ints k _ l) => cond (Nat.blt 0 len) (some (.ints k len ((l.drop off).take len), te)) none
      | _ => none
    | none => none
  | .dv _ _ te (.tc c) x => some (flatT c x, te)
  | _ => none

/-- What a call hands over: plain values as they are; of a slice that is all of a row: what the row holds, and the elements' type. -/
def argC (get : Nat → Option AV) (v : AV) : Option AV :=
  match v with
  | .sl b p off len cap te => match get b with
    | some T => match getP T p with
      | some (.ints k n l) => cond (Nat.beq len cap && Nat.beq off 0 && Nat.beq n len && Nat.blt 0 len) (some (.tup [.ints k n l, .clo te []])) none
      | _ => none
    | none => none
  | .gs b _ te => match get b with
    | some T => cond (pl T) (some (.tup [T, .clo te []])) none
    | none => none
  | .gp b lo n te nn z => match rowC get (.gp b lo n te nn z) with
    | some r => some (.tup [r.1, .clo r.2 []])
    | none => none
  | .dv _ _ _ _ _ => none
  | .tup _ => none
  | v => cond (pl v) (some v) none

def argsC (get : Nat → Option AV) : List AV → Option (List AV)
  | [] => some []
  | v :: l => match argC get v with
    | some u => match argsC get l with
      | some r => some (u :: r)
      | none => none
    | none => none

/-- One bound of a slice expression. -/
def bnd {R : Type} (ev : Operand → Option AV) (x : Option Operand) (dflt y : Nat) (f : R) (k : Nat → R) : R :=
  match x with
  | none => k dflt
  | some o => match ev o with
    | some (.int _ i) => cond (decide (0 ≤ i ∧ i ≤ (y : Int))) (k i.toNat) f
    | _ => f

/-- The code of a type. -/
def codeFs (g : TypeId → Option Tc) : List Field → Option Tc
  | [] => some .nil
  | f :: fs => match fs with
    | [] => g f.type
    | _ :: _ => match g f.type with
      | some a => match codeFs g fs with
        | some b => some (.cons a b)
        | none => none
      | none => none
def repC (c : Tc) : Nat → Tc
  | 0 => .nil
  | n + 1 => match n with
    | 0 => c
    | n + 1 => .cons c (repC c (n + 1))
def codeD (P : Program) : Nat → TypeId → Option Tc
  | 0, _ => none
  | d + 1, t => match P.underlying t with
    | some (.int k) => some (.int k)
    | some .bool => some .bool
    | some (.array n e) => match P.underlying e with
      | some (.int k) => some (.ints k n)
      | _ => match codeD P d e with
        | some c => some (.agg (repC c n))
        | none => none
    | some (.struct fs) => match codeFs (codeD P d) fs.toList with
      | some l => some (.agg l)
      | none => none
    | _ => none
def codeOf (P : Program) (t : TypeId) : Option Tc :=
  match codeD P 8 t with
  | some c => cond (c.fit P t) (some c) none
  | none => none

def Tc.getAll (c : Tc) : List AV → Option (List c.T)
  | [] => some []
  | v :: l => match c.get v with
    | some x => match c.getAll l with
      | some r => some (x :: r)
      | none => none
    | none => none
def castRow {c c' : Tc} (h : c = c') (l : List c.T) : List c'.T := h ▸ l

/-- One row behind another. -/
def catT : AV → AV → Option AV
  | .ints k n l, .ints k' m u => cond (kEq k k') (some (.ints k (n + m) (l ++ u))) none
  | .vec c l, .vec c' u => match h : c.same c' with
    | true => some (.vec c' (castRow (Tc.same_eq c c' h) l ++ u))
    | false => none
  | .vec c l, .agg es => match c.getAll es with
    | some u => some (.vec c (l ++ u))
    | none => none
  | _, _ => none

/-- An empty row, of the elements that another one has. -/
def emptyT (P : Program) (e : TypeId) : AV → Option AV
  | .ints k _ _ => some (.ints k 0 [])
  | .vec c _ => some (.vec c [])
  | .agg _ => match codeOf P e with
    | some c => some (.vec c [])
    | none => none
  | _ => none

/-- A type whose rows can grow; so many elements fit. -/
def rowTy (P : Program) (e : TypeId) : Bool :=
  match P.info? e with
  | some i => match i.zero with
    | some z => Nat.beq z.cells.size i.size && Nat.blt 0 i.size
    | none => false
  | none => false
def fits (P : Program) (e : TypeId) (q : Nat) : Bool :=
  match P.info? e with
  | some i => decide (q * i.bytes ≤ 140737488355328 ∧ q ≤ 9223372036854775807)
  | none => false

/-- append of rows: what grows, and what it holds then. -/
def appK {R : Type} (P : Program) (ro : Nat) (e : TypeId) (x y : AV) (get : Nat → Option AV) (f : R) (k : Eff → R) : R :=
  match y with
  | .gs b2 _ te => cond (Nat.beq te e && rowTy P e) (match get b2 with
    | some U => match x with
      | .nils => match emptyT P e U with
        | some T => match catT T U with
          | some V => cond (fits P e (rowN V)) (k (.grow none V fun c => .gs c (rowN V) e)) f
          | none => f
        | none => f
      | .gs b _ te' => cond (Nat.beq te' e && Nat.ble ro b) (match get b with
        | some T => match catT T U with
          | some V => cond (fits P e (rowN V)) (k (.grow (some b) V fun c => .gs c (rowN V) e)) f
          | none => f
        | none => f) f
      | _ => f
    | none => f) f
  | _ => f

/-- The kind of numbers that a type is. -/
def intTy (P : Program) (e : TypeId) : Option IntKind :=
  match P.underlying e with
  | some (.int k) => cond (Nat.beq (P.cellsOf e) 1) (some k) none
  | _ => none

/-- The parts of a slice literal of numbers, place by place. -/
def dense (ev : Operand → Option AV) (k : IntKind) : Nat → List (Nat × Operand) → Option (List Int)
  | _, [] => some []
  | i, x :: r => cond (Nat.beq x.1 i) (match ev x.2 with
    | some (.int k' v) => cond (kEq k k') (match dense ev k (i + 1) r with
      | some l => some (v :: l)
      | none => none) none
    | _ => none) none

/-- The parts of a slice literal of other things, place by place. -/
def denseA (P : Program) (ev : Operand → Option AV) (e : TypeId) : Nat → List (Nat × Operand) → Option (List AV)
  | _, [] => some []
  | i, x :: r => cond (Nat.beq x.1 i) (match ev x.2 with
    | some v => cond (chk P v e) (match denseA P ev e (i + 1) r with
      | some l => some (v :: l)
      | none => none) none
    | none => none) none

/-- A slice literal's content: typed, where the type has a code. -/
def rowLit (P : Program) (e : TypeId) (l : List AV) : AV :=
  match codeOf P e with
  | some c => match c.getAll l with
    | some u => .vec c u
    | none => .agg l
  | none => .agg l

/-- What a call gives back: a row of its own becomes a new name. -/
def retK {R : Type} (v : AV) (k : Eff → R) : R :=
  match v with
  | .tup [.tup [T, .clo te []], y] => k (.grow none T fun c => .tup [.gs c (rowN T) te, y])
  | .tup [T, .clo te []] => k (.grow none T fun c => .gs c (rowN T) te)
  | v => k (.val v)

def isClo : AV → Bool
  | .clo _ _ => true
  | .tup _ => true
  | _ => false

/-- What a result hands back: a row of its own by its content. -/
def resC1 (P : Program) (ro : Nat) (mem : Nat → Option AV) (t : TypeId) (v : AV) : Option AV :=
  match v with
  | .gs b _ te => cond (Nat.ble ro b) (match mem b with
    | some T => cond (pl T) (some (.tup [T, .clo te []])) none
    | none => none) none
  | .nils => match P.underlying t with
    | some (.slice e) => match intTy P e with
      | some k => some (.tup [.ints k 0 [], .clo e []])
      | none => match codeOf P e with
        | some c => some (.tup [.vec c [], .clo e []])
        | none => none
    | _ => none
  | v => cond (pl v && !(isClo v)) (some v) none
def resC (P : Program) (ro : Nat) (mem : Nat → Option AV) (ts : List TypeId) (v : AV) : Option AV :=
  match v with
  | .tup [x, y] => match ts with
    | [t, _] => cond (pl y && !(isClo y)) (match resC1 P ro mem t x with
      | some u => some (.tup [u, y])
      | none => none) none
    | _ => none
  | .tup l => cond (plL l) (some (.tup l)) none
  | v => match ts with
    | [t] => resC1 P ro mem t v
    | _ => none

def opK {R : Type} (P : Program) (Γ : FuncId → Option Ct) (ro : Nat) (o : Op) (ev : Operand → Option AV) (get : Nat → Option AV) (f : R) (k : Eff → R) : R :=
  match o with
  | .move x => match ev x with | some v => k (.val v) | none => f
  | .assign x => match ev x with | some v => k (.val v) | none => f
  | .pick c a b => match ev c, ev a, ev b with
    | some (.bool c), some a, some b => cond c (k (.val a)) (k (.val b))
    | _, _, _ => f
  | .alloc t => match zeroAV P t with | some z => k (.new t false 1 z fun b => .ptr b [] t) | none => f
  | .box t x => match ev x with
    | some v => cond (chk P v t) (k (.new t false 1 v fun b => .ptr b [] t)) f
    | none => f
  | .build t ps => match zeroAV P t, evP ev ps.toList with
    | some z, some vs => cond (wide z && Nat.blt 0 (P.cellsOf t)) (match fillAV P t z vs with | some v => k (.val v) | none => f) f
    | _, _ => f
  | .load t a => match ev a with
    | some (.ptr b p t') => cond (Nat.beq t t') (match get b with
      | some T => match getP T p with | some v => k (.val v) | none => f
      | none => f) f
    | some (.pa b p off n te) => match P.underlying t with
      | some (.array n' e) => cond (Nat.beq n' n && Nat.beq e te && Nat.beq (P.cellsOf t) n) (match get b with
        | some T => match getP T p with
          | some (.ints q _ l) => k (.val (.ints q n ((l.drop off).take n)))
          | _ => f
        | none => f) f
      | _ => f
    | _ => f
  | .sliceToArrayPointer t x => match ev x with
    | some (.sl b p off len _ te) => match P.underlying t with
      | some (.array n e) => cond (Nat.beq e te && Nat.ble n len) (k (.val (.pa b p off n te))) f
      | _ => f
    | _ => f
  | .store t a x => match ev a, ev x with
    | some (.ptr b p t'), some v => cond (Nat.beq t t' && Nat.ble ro b && chk P v t) (match get b with
      | some T => match setP T p v with | some T' => k (.upd b T') | none => f
      | none => f) f
    | _, _ => f
  | .nilCheck x => match ev x with
    | some (.ptr b p t) => k (.val (.ptr b p t))
    | _ => f
  | .binOp op _ x y _ => match ev x, ev y with
    | some (.int q a), some (.int q' b) =>
      match bcl op with
      | 3 => cond (decide (0 ≤ b)) (k (.val (.int q (ibin op q a b)))) f
      | 1 => cond (kEq q q') (cond (b == 0) f (k (.val (.int q (ibin op q a b))))) f
      | 4 => cond (kEq q q') (k (.val (.bool (icmp op a b)))) f
      | _ => cond (kEq q q') (k (.val (.int q (ibin op q a b)))) f
    | _, _ => f
  | .unOp op _ x => match op, ev x with
    | .neg, some (.int q a) => k (.val (.int q (ineg q a)))
    | .xor, some (.int q a) => k (.val (.int q (inot q a)))
    | .not, some (.bool b) => k (.val (.bool (!b)))
    | _, _ => f
  | .convert src dst x => match ev x with
    | some (.int _ a) => match P.underlying src, P.underlying dst with
      | some _, some (.int q) => k (.val (.int q (q.wrap a)))
      | _, _ => f
    | _ => f
  | .fieldAddr s x i => match ev x with
    | some (.ptr b p t) => cond (Nat.beq s t) (match P.underlying s with
      | some (.struct fs) => match fs[i]? with
        | some fd => cond (Nat.blt 0 (P.cellsOf fd.type)) (k (.val (.ptr b (p ++ [i]) fd.type))) f
        | none => f
      | _ => f) f
    | _ => f
  | .field s x i => match ev x with
    | some (.agg l) => match P.underlying s with
      | some (.struct _) => cond (chk P (.agg l) s) (match l[i]? with | some v => k (.val v) | none => f) f
      | _ => f
    | _ => f
  | .indexAddr t x ix => match ev x, ev ix with
    | some (.ptr b p t'), some (.int _ i) => cond (Nat.beq t t') (match P.underlying t with
      | some (.array n e) => cond (Nat.blt 0 (P.cellsOf e)) (cond (decide (0 ≤ i ∧ i < (n : Int))) (k (.val (.ptr b (p ++ [i.toNat]) e))) f) f
      | _ => f) f
    | some (.sl b p off len _ te), some (.int _ i) => match P.underlying t with
      | some (.slice e) => cond (Nat.beq e te && Nat.blt 0 (P.cellsOf e)) (cond (decide (0 ≤ i ∧ i < (len : Int))) (k (.val (.ptr b (p ++ [off + i.toNat]) e))) f) f
      | _ => f
    | some (.gs b n te), some (.int _ i) => match P.underlying t with
      | some (.slice e) => cond (Nat.beq e te && Nat.blt 0 (P.cellsOf e)) (cond (decide (0 ≤ i ∧ i < (n : Int))) (k (.val (.ptr b [i.toNat] e))) f) f
      | _ => f
    | _, _ => f
  | .index t x ix => match ev x, ev ix with
    | some (.ints q n l), some (.int _ i) => match P.underlying t with
      | some (.array m _) => cond (Nat.beq m n && chk P (.ints q n l) t) (cond (decide (0 ≤ i ∧ i < (n : Int))) (k (.val (.int q (l.getD i.toNat 0)))) f) f
      | _ => f
    | some (.agg l), some (.int _ i) => match P.underlying t with
      | some (.array _ _) => cond (chk P (.agg l) t) (cond (decide (0 ≤ i ∧ i < (l.length : Int))) (match subL l i.toNat with | some v => k (.val v) | none => f) f) f
      | _ => f
    | some (.str s), some (.int _ i) => match P.underlying t with
      | some .string => cond (decide (0 ≤ i ∧ i < (s.size : Int))) (k (.val (.int .u8 (s.data.toList.getD i.toNat 0).toNat))) f
      | _ => f
    | _, _ => f
  | .slice t x lo hi Option.none => match ev x with
    | some (.ptr b p t') => cond (Nat.beq t t') (match P.underlying t with
      | some (.array n e) => cond (Nat.blt 0 (P.cellsOf e) && inR .i64 n) (bnd ev hi n n f fun h => bnd ev lo 0 h f fun l => k (.val (.sl b p (bif Nat.beq n l then 0 else l) (h - l) (n - l) e))) f
      | _ => f) f
    | some (.sl b p off len cap te) => match P.underlying t with
      | some (.slice e) => cond (Nat.beq e te && Nat.blt 0 (P.cellsOf e)) (bnd ev hi len cap f fun h => bnd ev lo 0 h f fun l => k (.val (.sl b p (bif Nat.beq cap l then off else off + l) (h - l) (cap - l) e))) f
      | _ => f
    | some .nils => match P.underlying t with
      | some (.slice e) => cond (Nat.blt 0 (P.cellsOf e)) (bnd ev hi 0 0 f fun h => bnd ev lo 0 h f fun _ => k (.val .nils)) f
      | _ => f
    | _ => f
  | .buildSlice t n ps => match P.underlying t with
    | some (.slice e) => match intTy P e with
      | some q => match dense ev q 0 ps.toList with
        | some l => cond (Nat.beq l.length n && Nat.blt 0 n && Nat.ble n 16777216 && rowTy P e) (k (.grow none (.ints q n l) fun b => .gs b n e)) f
        | none => f
      | none => match denseA P ev e 0 ps.toList with
        | some l => cond (Nat.beq l.length n && Nat.blt 0 n && Nat.ble (n * P.cellsOf e) 16777216 && Nat.ble n 16777216 && Nat.blt 0 (P.cellsOf e) && rowTy P e) (k (.grow none (rowLit P e l) fun b => .gs b n e)) f
        | none => f
    | _ => f
  | .extract x i => match ev x with
    | some (.tup l) => match l[i]? with | some v => k (.val v) | none => f
    | _ => f
  | .makeFunc (.func g) first caps => match first.toList with
    | [] => match evL ev caps.toList with | some l => k (.val (.clo g l)) | none => f
    | _ :: _ => f
  | .makeInterface t x => match ev x with
    | some v => match P.underlying t with
      | some (.interface _) => f
      | some _ => k (.val (.ifc t v))
      | none => f
    | none => f
  | .call c => match c.callee with
    | .value fo => match ev fo, evL ev c.args.toList with
      | some (.clo g []), some vs => match Γ g with
        | some C => match argsC get vs with
          | some us => (C us).run f fun v => retK v k
          | none => f
        | none => f
      | _, _ => f
    | .builtin .append => match evL ev c.args.toList, c.argTypes.toList with
      | some [x, y], [t, t'] => cond (Nat.beq t t') (match P.underlying t with
        | some (.slice e) => appK P ro e x y get f k
        | _ => f) f
      | _, _ => f
    | .builtin .len => match evL ev c.args.toList, c.argTypes.toList with
      | some [.sl _ _ _ n _ _], [t] => match P.underlying t with
        | some (.slice _) => k (.val (.int .i64 n))
        | _ => f
      | some [.gs _ n _], [t] => match P.underlying t with
        | some (.slice _) => k (.val (.int .i64 n))
        | _ => f
      | some [.nils], [t] => match P.underlying t with
        | some (.slice _) => k (.val (.int .i64 0))
        | _ => f
      | some [.str s], [t] => match P.underlying t with
        | some .string => k (.val (.int .i64 s.size))
        | _ => f
      | some [_], [t] => match P.underlying t with
        | some (.array n _) => cond (inR .i64 n) (k (.val (.int .i64 n))) f
        | _ => f
      | _, _ => f
    | _ => f
  | _ => f

/-- No part is an interface. -/
def eqG (P : Program) (t : TypeId) : AV → Bool
  | .ints _ _ _ => !P.eqGuardType P.depth t
  | .agg _ => !P.eqGuardType P.depth t
  | .nilif => false
  | .vec _ _ => false
  | .dc _ _ => false
  | .itr _ _ => false
  | _ => true

/-- '==' and '!=' on values that are no numbers. -/
def eqK {R : Type} (P : Program) (t : TypeId) (neg : Bool) (x y : AV) (f : R) (k : Eff → R) : R :=
  match eqD P 4 t x y with
  | some b => cond (chk P x t && chk P y t && eqG P t x) (k (.val (.bool (cond neg (!b) b)))) f
  | none => f

def opE {R : Type} (P : Program) (Γ : FuncId → Option Ct) (ro : Nat) (o : Op) (ev : Operand → Option AV) (get : Nat → Option AV) (f : R) (k : Eff → R) : R :=
  match o with
  | .binOp .eql t x y _ => match ev x, ev y with
    | some (.int q a), some (.int q' b) => cond (kEq q q') (k (.val (.bool (icmp .eql a b)))) f
    | some a, some b => eqK P t false a b f k
    | _, _ => f
  | .binOp .neq t x y _ => match ev x, ev y with
    | some (.int q a), some (.int q' b) => cond (kEq q q') (k (.val (.bool (icmp .neq a b)))) f
    | some a, some b => eqK P t true a b f k
    | _, _ => f
  | o => opK P Γ ro o ev get f k

/-- Bytes as a text. -/
def bStr (l : List Int) : ByteArray := ⟨(l.map fun n => UInt8.ofNat n.toNat).toArray⟩

/-- append, in more forms: what grows, and what it holds then. -/
def appX {R : Type} (P : Program) (ro : Nat) (e : TypeId) (x y : AV) (get : Nat → Option AV) (f : R) (k : Eff → R) : R :=
  match y with
  | .nils => match x with
    | .nils => cond (rowTy P e) (k (.val .nils)) f
    | .gs b n te => cond (Nat.beq te e && rowTy P e && Nat.ble ro b) (match get b with
      | some T => cond (pl T) (k (.val (.gs b n te))) f
      | none => f) f
    | _ => f
  | y => match rowC get y with
    | some r => cond (Nat.beq r.2 e && rowTy P e) (match x with
      | .nils => match emptyT P e r.1 with
        | some T => match catT T r.1 with
          | some V => cond (fits P e (rowN V)) (k (.grow none V fun c => .gs c (rowN V) e)) f
          | none => f
        | none => f
      | .gs b _ te' => cond (Nat.beq te' e && Nat.ble ro b) (match get b with
        | some T => match catT T r.1 with
          | some V => cond (fits P e (rowN V)) (k (.grow (some b) V fun c => .gs c (rowN V) e)) f
          | none => f
        | none => f) f
      | .gp b lo n te' _ z => cond (Nat.beq te' e && Nat.ble ro b && (Nat.beq lo 0 && Nat.beq z 0)) (match get b with
        | some T0 => match cutT 0 n T0 with
          | some T => match catT T r.1 with
            | some V => cond (fits P e (rowN V)) (k (.grow (some b) V fun c => .gs c (rowN V) e)) f
            | none => f
          | none => f
        | none => f) f
      | _ => f) f
    | none => f

/-- One row over another's beginning. -/
def copyT (T U : AV) : Option AV :=
  match T, U with
  | .ints q n l, .ints q' m u => cond (kEq q q') (some (.ints q n (u.take n ++ l.drop m))) none
  | .vec c l, .vec c' u => match h : c'.same c with
    | true => some (.vec c ((castRow (Tc.same_eq c' c h) u).take l.length ++ l.drop u.length))
    | false => none
  | _, _ => none

/-- Zero elements of a type. -/
def zeroRow (P : Program) (e : TypeId) (n : Nat) : Option AV :=
  match zeroAV P e with
  | some (.int k 0) => match intTy P e with
    | some k' => cond (kEq k k') (some (.ints k n (List.replicate n 0))) none
    | none => none
  | some z => match codeOf P e with
    | some c => match c.get z with
      | some x => some (.vec c (List.replicate n x))
      | none => none
    | none => none
  | none => none

/-- append of so many zero elements to nil. -/
def appZ {R : Type} (P : Program) (e : TypeId) (x y : AV) (f : R) (k : Eff → R) : R :=
  match x with
  | .nils => match y with
    | .int _ i => match zeroRow P e i.toNat with
      | some T => cond (decide (0 < i) && fits P e i.toNat && rowTy P e) (k (.grow none T fun c => .gs c i.toNat e)) f
      | none => f
    | _ => f
  | _ => f

/-- More operations. -/
def opK' {R : Type} (P : Program) (Γ : FuncId → Option Ct) (ro : Nat) (o : Op) (ev : Operand → Option AV) (get : Nat → Option AV) (f : R) (k : Eff → R) : R :=
  match o with
  | .slice t x lo hi Option.none => match ev x with
    | some (.gs b n te) => match P.underlying t with
      | some (.slice e) => cond (Nat.beq e te && Nat.blt 0 (P.cellsOf e)) (bnd ev hi n n f fun h => bnd ev lo 0 h f fun l => k (.val (.gp b l (h - l) te false 0))) f
      | _ => f
    | some (.gp b lo0 n te nn z) => match P.underlying t with
      | some (.slice e) => cond (Nat.beq e te && Nat.blt 0 (P.cellsOf e)) (match lo with
        | none => bnd ev hi n n f fun h => k (.val (.gp b lo0 h te nn z))
        | some lo => bnd ev hi n n f fun h => bnd ev (some lo) 0 h f fun l => k (.val (.gp b (lo0 + l) (h - l) te nn (cond (Nat.beq l 0) z lo0)))) f
      | _ => f
    | some (.dv b p te d x) => match P.underlying t with
      | some (.slice e) => cond (Nat.beq e te && Nat.blt 0 (P.cellsOf e)) (bnd ev hi x.length x.length f fun h => bnd ev lo 0 h f fun l => k (.val (.dv b (p ++ [.sub l (P.cellsOf e)]) te d ((x.drop l).take (h - l))))) f
      | _ => f
    | some (.str s) => match P.underlying t with
      | some .string => bnd ev hi s.size s.size f fun h => bnd ev lo 0 h f fun l => k (.val (.str (s.extract l h)))
      | _ => f
    | _ => opE P Γ ro (.slice t x lo hi Option.none) ev get f k
  | .indexAddr t x ix => match ev x, ev ix with
    | some (.gp b lo n te _ _), some (.int _ i) => match P.underlying t with
      | some (.slice e) => cond (Nat.beq e te && Nat.blt 0 (P.cellsOf e)) (cond (decide (0 ≤ i ∧ i < (n : Int))) (k (.val (.ptr b [lo + i.toNat] e))) f) f
      | _ => f
    | some (.dv b p te d x), some (.int _ i) => match P.underlying t with
      | some (.slice e) => cond (Nat.beq e te && Nat.blt 0 (P.cellsOf e)) (cond (decide (0 ≤ i ∧ i < (x.length : Int))) (k (.val (.dq b p (i.toNat * P.cellsOf e) te d (x.getD i.toNat d.dft)))) f) f
      | _ => f
    | _, _ => opE P Γ ro (.indexAddr t x ix) ev get f k
  | .fieldAddr st x i => match ev x with
    | some (.dq b p o te (.agg l) xv) => cond (Nat.beq st te && Dc.fit P (.agg l) st) (match P.underlying st with
      | some (.struct fs) => match fs[i]?, l.nth i xv with
        | some fd, some q => cond (Nat.blt 0 (P.cellsOf fd.type)) (k (.val (.dq b p (o + fd.offset) fd.type q.1 q.2))) f
        | _, _ => f
      | _ => f) f
    | _ => opE P Γ ro (.fieldAddr st x i) ev get f k
  | .load t a => match ev a with
    | some (.dq b p o te d x) => cond (Nat.beq t te && d.fit P t) (k (.val (d.mkB b p o x).1)) f
    | _ => opE P Γ ro (.load t a) ev get f k
  | .convert src dst x => match ev x with
    | some (.int q a) => opE P Γ ro (.convert src dst x) ev get f k
    | some .nils => match P.underlying src, P.underlying dst with
      | some (.slice e), some .string => match P.underlying e with
        | some (.int .u8) => k (.val (.str (bStr [])))
        | _ => f
      | _, _ => f
    | some v => match P.underlying src, P.underlying dst with
      | some (.slice e), some .string => match rowC get v with
        | some r => match r.1 with
          | .ints .u8 _ l => cond (Nat.beq e r.2) (k (.val (.str (bStr l)))) f
          | _ => f
        | none => f
      | _, _ => f
    | none => f
  | .binOp .add t x y ty => match ev x, ev y with
    | some (.str a), some (.str b) => cond (inR .i64 ((a.size + b.size : Nat) : Int)) (k (.val (.str (a ++ b)))) f
    | _, _ => opE P Γ ro (.binOp .add t x y ty) ev get f k
  | .binOp .eql t x y ty => match ev x, ev y with
    | some (.gp b lo n te true _), some .nils => match P.underlying t with
      | some (.slice _) => k (.val (.bool false))
      | _ => f
    | _, _ => opE P Γ ro (.binOp .eql t x y ty) ev get f k
  | .makeSlice t len cap => match ev len, ev cap with
    | some (.int _ i), some (.int _ j) => match P.underlying t with
      | some (.slice e) => match zeroRow P e i.toNat with
        | some T => cond (decide (0 ≤ i ∧ i ≤ j) && fits P e j.toNat && rowTy P e) (k (.grow none T fun c => .gs c i.toNat e)) f
        | none => f
      | _ => f
    | _, _ => f
  | .buildSlice t n ps => match n with
    | 0 => match P.underlying t with
      | some (.slice e) => match zeroRow P e 0 with
        | some T => cond (rowTy P e && (match ps.toList with | [] => true | _ :: _ => false)) (k (.grow none T fun c => .gs c 0 e)) f
        | none => f
      | _ => f
    | n => opE P Γ ro (.buildSlice t n ps) ev get f k
  | .call c => match c.callee with
    | .builtin .append => match evL ev c.args.toList, c.argTypes.toList with
      | some [x, y], [t, t'] => cond (Nat.beq t t') (match P.underlying t with
        | some (.slice e) => appX P ro e x y get f k
        | _ => f) (match P.underlying t, P.underlying t' with
        | some (.slice e), some (.int _) => appZ P e x y f k
        | _, _ => f)
      | _, _ => f
    | .builtin .cap => match evL ev c.args.toList, c.argTypes.toList with
      | some [.nils], [t] => match P.underlying t with
        | some (.slice _) => k (.val (.int .i64 0))
        | _ => f
      | _, _ => f
    | .builtin .len => match evL ev c.args.toList, c.argTypes.toList with
      | some [.gp _ _ n _ _ _], [t] => match P.underlying t with
        | some (.slice _) => k (.val (.int .i64 n))
        | _ => f
      | some [.dv _ _ _ _ x], [t] => match P.underlying t with
        | some (.slice _) => k (.val (.int .i64 x.length))
        | _ => f
      | _, _ => opE P Γ ro (.call c) ev get f k
    | _ => opE P Γ ro (.call c) ev get f k
  | o => opE P Γ ro o ev get f k

structure St where
  tm : List (Nat × AV)
  mem : List (Nat × AV)
  nx : Nat

def St.put (st : St) (d : Option Nat) (v : AV) : St :=
  match d with
  | some d => { st with tm := (d, v) :: st.tm }
  | none => st

/-- A Boolean slot whose value is known on this way. -/
def St.know (st : St) (d : Nat) (b : Bool) : St := { st with tm := (d, .bool b) :: st.tm }

/-- The slot that an operation writes is one of the frame's. -/
def dOK (nt : Nat) : Option Nat → Bool
  | some d => Nat.blt d nt
  | none => true

def St.app (st : St) (i : Nat) (d : Option Nat) : Eff → St
  | .val v => st.put d v
  | .new _ _ _ T g => { st.put d (g (st.nx + i)) with mem := (st.nx + i, T) :: st.mem }
  | .upd b T => { st.put d (.tup []) with mem := (b, T) :: st.mem }
  | .grow b T g => { st.put d (g (st.nx + i)) with mem := (st.nx + i, T) :: del b st.mem }

/-- A function that is run where it is called, on the caller's memory: arguments, memory, the next name; then its result, the memory and the next name behind it. -/
structure Inl where
  run : {R : Type} → R → List AV → List (Nat × AV) → Nat → (AV → List (Nat × AV) → Nat → R) → R
  par : ∀ {R : Type} (f : R) (vs : List AV) (mem : List (Nat × AV)) (nx : Nat) (k : AV → List (Nat × AV) → Nat → R), run f vs mem nx k = mo (run none vs mem nx fun v m n => some (v, m, n)) f fun r => k r.1 r.2.1 r.2.2

/-- None. -/
def Inl.no : Inl where
  run := fun f _ _ _ _ => f
  par := fun _ _ _ _ _ => rfl

structure Cx where
  Γ : FuncId → Option Ct
  gl : Nat → Option AV
  ro : Nat
  nt : Nat
  inl : FuncId → Option Inl := fun _ => none
  kp : Bool := false

/-- Is the operation a call that is run in place? -/
def inlAt (cx : Cx) (o : Oper) (st : St) : Option (Inl × List AV) :=
  match o.op with
  | .call c => match c.callee with
    | .value fo => match evO cx.gl st.tm fo with
      | some (.clo g []) => match cx.inl g with
        | some I => match evL (evO cx.gl st.tm) c.args.toList with
          | some vs => some (I, vs)
          | none => none
        | none => none
      | _ => none
    | _ => none
  | _ => none

def runOps {R : Type} (P : Program) (cx : Cx) (acc : Nat → Nat → Bool) (all : Array Oper) (f : R) : List (Nat × Oper) → St → (St → R) → R
  | [], st, K => K st
  | (i, o) :: rest, st, K =>
    cond (dOK cx.nt o.dst)
      (match o.guard with
      | none => opK' P cx.Γ cx.ro o.op (evO cx.gl st.tm) (fun b => cond (acc i b) (lk b st.mem) none) f fun e => runOps P cx acc all f rest (st.app i o.dst e) K
      | some (j, want) => match (all[j]?).bind (·.dst) with
        | none => f
        | some d => match lk d st.tm with
          | some (.bool b) => match want with
            | true => cond b (opK' P cx.Γ cx.ro o.op (evO cx.gl (st.know d true).tm) (fun b => cond (acc i b) (lk b st.mem) none) f fun e => runOps P cx acc all f rest ((st.know d true).app i o.dst e) K)
                (runOps P cx acc all f rest ((st.know d false).put o.dst (.tup [])) K)
            | false => cond b (runOps P cx acc all f rest ((st.know d true).put o.dst (.tup [])) K)
                (opK' P cx.Γ cx.ro o.op (evO cx.gl (st.know d false).tm) (fun b => cond (acc i b) (lk b st.mem) none) f fun e => runOps P cx acc all f rest ((st.know d false).app i o.dst e) K)
          | some (.tup []) => runOps P cx acc all f rest (st.put o.dst (.tup [])) K
          | _ => f)
      f

/-- A call that is run in place, where its guard lets it. -/
def stepI {R : Type} (all : Array Oper) (f : R) (o : Oper) (I : Inl) (vs : List AV) (st : St) (K : St → R) : R :=
  match o.guard with
  | none => I.run f vs st.mem (st.nx + all.size) fun v mem nx => K { st.put o.dst v with mem := mem, nx := nx }
  | some (j, want) => match (all[j]?).bind (·.dst) with
    | none => f
    | some d => match lk d st.tm with
      | some (.bool b) => match want with
        | true => cond b (I.run f vs st.mem (st.nx + all.size) fun v mem nx => K { (st.know d true).put o.dst v with mem := mem, nx := nx }) (K ((st.know d false).put o.dst (.tup [])))
        | false => cond b (K ((st.know d true).put o.dst (.tup []))) (I.run f vs st.mem (st.nx + all.size) fun v mem nx => K { (st.know d false).put o.dst v with mem := mem, nx := nx })
      | some (.tup []) => K (st.put o.dst (.tup []))
      | _ => f

/-- An iterator over a text. -/
def rangeI (s : ByteArray) : Inl where
  run := fun _ _ mem nx k => k (.itp nx) ((nx, .itr s 0) :: mem) (nx + 1)
  par := by intros; rfl
/-- Its next round. -/
def nextI (b : Nat) : Inl where
  run := fun f _ mem nx k => match lk b mem with
    | some (.itr s p) => cond (Nat.blt p s.size) (k (.tup [.bool true, .int .i64 p, .int .i32 (Utf8.decode s p).1]) ((b, .itr s (p + (Utf8.decode s p).2)) :: mem) nx) (k (.tup [.bool false]) mem nx)
    | _ => f
  par := by
    intros
    split
    · rename_i s p _
      cases Nat.blt p s.size <;> rfl
    · rfl
/-- copy, into a row of the frame's own. -/
def copyI (ro : Nat) (x y : AV) : Inl where
  run := fun f _ mem nx k => match rowC (fun b => lk b mem) y with
    | some r => match x with
      | .gs b _ te => cond (Nat.beq te r.2 && Nat.ble ro b) (match lk b mem with
        | some T => match copyT T r.1 with
          | some V => k (.int .i64 ((min (rowN r.1) (rowN T) : Nat) : Int)) ((b, V) :: mem) nx
          | none => f
        | none => f) f
      | _ => f
    | none => f
  par := by
    intro R f vs mem nx k
    cases rowC (fun b => lk b mem) y with
    | none => rfl
    | some r =>
      cases x with
      | gs b n te =>
        simp only
        cases (Nat.beq te r.2 && Nat.ble ro b) with
        | false => rfl
        | true =>
          simp only [cond_true]
          cases lk b mem with
          | none => rfl
          | some T =>
            simp only
            cases copyT T r.1 with
            | none => rfl
            | some V => rfl
      | _ => rfl
/-- Operations that turn the state, told by themselves. -/
def wAt (P : Program) (cx : Cx) (o : Oper) (st : St) : Option Inl :=
  match o.op with
  | .range t x => match evO cx.gl st.tm x, P.underlying t with
    | some (.str s), some .string => some (rangeI s)
    | _, _ => none
  | .next it true => match evO cx.gl st.tm it with
    | some (.itp b) => some (nextI b)
    | _ => none
  | .call c => match c.callee with
    | .builtin .copy => match evL (evO cx.gl st.tm) c.args.toList, c.argTypes.toList with
      | some [x, y], [t, t'] => match P.underlying t, P.underlying t' with
        | some (.slice e), some (.slice _) => match x with
          | .gs _ _ te => cond (Nat.beq e te && rowTy P e) (some (copyI cx.ro x y)) none
          | _ => none
        | _, _ => none
      | _, _ => none
    | _ => none
  | _ => none

/-- The content of a row of flat data. -/
def flatOf : AV → Option ((c : Tc) × List c.T)
  | .ints k _ l => some ⟨.int k, l⟩
  | .vec c l => some ⟨c, l⟩
  | _ => none
/-- An append whose base is looked at later: nobody writes to either of them any more. -/
def keepI (P : Program) (b : Nat) (te : TypeId) (y : AV) : Inl where
  run := fun f _ mem nx k => match lk b mem with
    | some T => match rowC (fun b => lk b mem) y with
      | some r => cond (Nat.beq r.2 te) (match catT T r.1 with
        | some V => match flatOf V with
          | some d => cond (fits P te (rowN V)) (k (.dv (nx + 1) [] te (.tc d.1) d.2) (del (some b) mem) (nx + 3)) f
          | none => f
        | none => f) f
      | none => f
    | none => f
  par := by
    intro R f vs mem nx k
    cases lk b mem with
    | none => rfl
    | some T =>
      simp only
      cases rowC (fun b => lk b mem) y with
      | none => rfl
      | some r =>
        simp only
        cases Nat.beq r.2 te with
        | false => rfl
        | true =>
          simp only [cond_true]
          cases catT T r.1 with
          | none => rfl
          | some V =>
            simp only
            cases flatOf V with
            | none => rfl
            | some d =>
              simp only
              cases fits P te (rowN V) <;> rfl
/-- Where an append keeps its base: the base's name and type, what it holds; what is appended. -/
def keepAt (P : Program) (cx : Cx) (o : Oper) (st : St) : Option (Nat × TypeId × ((c : Tc) × List c.T) × AV) :=
  match cx.kp with
  | true => match o.op with
    | .call c => match c.callee with
      | .builtin .append => match o.guard with
        | none => match evL (evO cx.gl st.tm) c.args.toList, c.argTypes.toList with
          | some [.gs b _ te, y], [t, t'] => match P.underlying t with
            | some (.slice e) => cond (Nat.beq t t' && Nat.beq e te && Nat.ble cx.ro b && rowTy P te) (match lk b st.mem with
              | some T => match flatOf T with
                | some d => some (b, te, d, y)
                | none => none
              | none => none) none
            | _ => none
          | _, _ => none
        | _ => none
      | _ => none
    | _ => none
  | false => none
/-- The slots of that row, from now on. -/
def swapV (b : Nat) (te : TypeId) (u : AV) : AV → AV
  | .gs b' n te' => cond (Nat.beq b b' && Nat.beq te te') u (.gs b' n te')
  | v => v
def swapS (b : Nat) (te : TypeId) (u : AV) : List (Nat × AV) → List (Nat × AV)
  | [] => []
  | (d, v) :: r => (d, swapV b te u v) :: swapS b te u r

/-- A region in the text's order, some of whose calls are run in place. -/
def runI {R : Type} (P : Program) (cx : Cx) (all : Array Oper) (f : R) : List (Nat × Oper) → St → (St → R) → R
  | [], st, K => K st
  | (i, o) :: rest, st, K => match inlAt cx o st with
    | some (I, vs) => cond (dOK cx.nt o.dst) (stepI all f o I vs st fun st' => runI P cx all f rest st' K) f
    | none => match wAt P cx o st with
      | some I => cond (dOK cx.nt o.dst) (stepI all f o I [] st fun st' => runI P cx all f rest st' K) f
      | none => match keepAt P cx o st with
      | some (b, te, d, y) => cond (dOK cx.nt o.dst) ((keepI P b te y).run f [] st.mem (st.nx + all.size) fun v mem nx => runI P cx all f rest { tm := swapS b te (.dv (st.nx + all.size + 2) [] te (.tc d.1) d.2) (st.put o.dst v).tm, mem := mem, nx := nx } K) f
      | none => runOps P cx (fun _ _ => true) all f [(i, o)] st fun st' => runI P cx all f rest st' K

/-- How a piece of code ends. -/
inductive Ex where
  | normal
  | exit (id : Nat)
  | ret
  | goto (l : Nat)

/-- A loop (or any block) that was reckoned apart: from the state at its beginning to the state behind it. -/
abbrev Lf := St → Res (Ex × St)

def iterK {R : Type} (body : St → (Ex → St → R) → R) (f : R) : Nat → St → (Ex → St → R) → R
  | 0, _, _ => f
  | n + 1, st, K => body st fun e st' => match e with
    | .normal => iterK body f n st' K
    | e => K e st'

def numbered {α : Type} : Nat → List α → List (Nat × α)
  | _, [] => []
  | i, a :: l => (i, a) :: numbered (i + 1) l

/-- What must be done ahead of an operation: the operations of its region, as the bits of a number. -/
def maskAt (ms : List Nat) (o : Oper) : Nat :=
  o.after.toList.foldl (fun s e => cond (Region.binds .any e) (s ||| (2 ^ e.on ||| ms.getD e.on 0)) s) 0

def masks : List Oper → List Nat → List Nat
  | [], ms => ms
  | o :: l, ms => masks l (ms ++ [maskAt ms o])

def tmpOf : Operand → Option Nat
  | .tmp t => some t
  | _ => none

/-- The slots that an operation looks at. -/
def looks (all : Array Oper) (o : Oper) : List Nat :=
  (o.op.operands.toList.filterMap tmpOf) ++ (match o.guard with
    | some (g, _) => ((all[g]?).bind (·.dst)).toList
    | none => [])

def isW : Op → Bool
  | .store _ _ _ => true
  | .call c => match c.callee with
    | .builtin .append => true
    | _ => false
  | _ => false
def isM : Op → Bool
  | .store _ _ _ => true
  | .load _ _ => true
  | .call _ => true
  | .convert _ _ _ => true
  | _ => false

def clear (d : Option Nat) (l : List Nat) : Bool :=
  match d with
  | none => true
  | some d => l.all fun x => !Nat.beq x d

/-- Two loads or stores that keep to two blocks. -/
def sepO (a b : Option Nat) : Bool :=
  match a with
  | some a => (match b with
    | some b => !Nat.beq a b
    | none => false)
  | none => false

def dstIs (t : Nat) (o : Oper) : Bool :=
  match o.dst with
  | some d => Nat.beq d t
  | none => false

/-- What a slot will hold: foretold (a wrong foretelling makes the run fail). -/
def findD (t : Nat) : Nat → List Oper → Option (Nat × Oper)
  | _, [] => none
  | i, o :: l => cond (dstIs t o) (some (i, o)) (findD t (i + 1) l)
def foreA (nx : Nat) (tm mem : List (Nat × AV)) (ops : List Oper) : Nat → Operand → Option AV
  | 0, _ => none
  | k + 1, x => match x with
    | .tmp t => match findD t 0 ops with
      | some (i0, o) => (match o.op with
        | .alloc t' => some (.ptr (nx + i0) [] t')
        | .box t' _ => some (.ptr (nx + i0) [] t')
        | .move y => foreA nx tm mem ops k y
        | .assign y => foreA nx tm mem ops k y
        | .nilCheck y => foreA nx tm mem ops k y
        | .fieldAddr _ y i => (match foreA nx tm mem ops k y with
          | some (.ptr b p t') => some (.ptr b (p ++ [i]) t')
          | _ => none)
        | .load _ y => (match foreA nx tm mem ops k y with
          | some (.ptr b p _) => (match lk b mem with
            | some T => getP T p
            | none => none)
          | _ => none)
        | .indexAddr _ y _ => (match foreA nx tm mem ops k y with
          | some (.ptr b p t') => some (.ptr b p t')
          | some (.gs b _ t') => some (.ptr b [] t')
          | some (.gp b _ _ t' _ _) => some (.ptr b [] t')
          | some (.sl b p _ _ _ t') => some (.ptr b p t')
          | _ => none)
        | _ => none)
      | none => lk t tm
    | _ => none

def ownOf (nx : Nat) (tm mem : List (Nat × AV)) (ops : List Oper) (o : Oper) : Option Nat :=
  match o.op with
  | .load _ x => (match foreA nx tm mem ops 10 x with
    | some (.ptr b _ _) => some b
    | _ => none)
  | .store _ x _ => (match foreA nx tm mem ops 10 x with
    | some (.ptr b _ _) => some b
    | _ => none)
  | _ => none

def owns (nx : Nat) (tm mem : List (Nat × AV)) (ops : List Oper) : List (Option Nat) := ops.map (ownOf nx tm mem ops)

/-- Neither of two operations sees what the other does. -/
def indep (all : Array Oper) (d : Bool) (x y : Oper) : Bool :=
  clear x.dst (looks all y) && clear y.dst (looks all x) && clear x.dst y.dst.toList && (d || (!(isW x.op && isM y.op) && !(isM x.op && isW y.op)))

def ind (all : Array Oper) (os : List (Option Nat)) (x y : Nat × Oper) : Bool := indep all (sepO (os.getD x.1 none) (os.getD y.1 none)) x.2 y.2

def loose (all : Array Oper) (os : List (Option Nat)) (o : Nat × Oper) (m : Nat) : List (Nat × Oper) → Bool
  | [] => true
  | x :: l => (m.testBit x.1 || ind all os x o) && loose all os o m l

def looseAll (all : Array Oper) (os : List (Option Nat)) (ms : List Nat) : List (Nat × Oper) → List (Nat × Oper) → Bool
  | [], _ => true
  | x :: l, done => loose all os x (ms.getD x.1 0) done && looseAll all os ms l (x :: done)

def edgesOK : List (Nat × Oper) → Bool
  | [] => true
  | x :: l => (x.2.after.toList.all fun e => !(Region.binds .any e) || Nat.blt e.on x.1) && edgesOK l

/-- May the operations of a region be done in any order that its edges allow? -/
def drawOK (ops : Array Oper) (os : List (Option Nat)) : Bool :=
  edgesOK (numbered 0 ops.toList) && looseAll ops os (masks ops.toList []) (numbered 0 ops.toList) []

def accD (nx : Nat) (ms : List Nat) (os : List (Option Nat)) (i b : Nat) : Bool :=
  match os.getD i none with
  | some b0 => (Nat.blt b nx || (ms.getD i 0).testBit (b - nx)) && Nat.beq b b0
  | none => Nat.blt b nx || (ms.getD i 0).testBit (b - nx)

/-- A piece of code: from its beginning; from a label on its spine. -/
noncomputable def execB {R : Type} (P : Program) (cx : Cx) (Λ : Nat → Option Lf) (n : Nat) (f : R) (c : Code) : (St → (Ex → St → R) → R) × (Nat → St → (Ex → St → R) → R) :=
  Code.rec (motive := fun _ => (St → (Ex → St → R) → R) × (Nat → St → (Ex → St → R) → R))
    (fun st K => K .normal st, fun _ _ _ => f)
    (fun _ ops draw => (fun st K => cond draw
      (cond (P.follows .mixedOrders && drawOK ops (owns st.nx st.tm st.mem ops.toList)) (runOps P cx (accD st.nx (masks ops.toList []) (owns st.nx st.tm st.mem ops.toList)) ops f (numbered 0 ops.toList) st fun st' => K .normal { st' with nx := st'.nx + ops.size }) f)
      (runI P cx ops f (numbered 0 ops.toList) st fun st' => K .normal { st' with nx := st'.nx + ops.size }), fun _ _ _ => f))
    (fun a _ iha ihb => (fun st K => iha.1 st fun e st' => match e with
      | .normal => ihb.1 st' K
      | e => K e st',
      fun l st K => match findLabel a l with
      | some _ => iha.2 l st fun e st' => match e with
        | .normal => ihb.1 st' K
        | e => K e st'
      | none => ihb.2 l st K))
    (fun c _ _ iha ihb => (fun st K => match evO cx.gl st.tm c with
      | some (.bool t) => (match c with
        | .tmp d => cond t (iha.1 (st.know d true) K) (ihb.1 (st.know d false) K)
        | _ => cond t (iha.1 st K) (ihb.1 st K))
      | _ => f, fun _ _ _ => f))
    (fun id _ iha => (fun st K => match Λ id with
      | some L => (L st).run f fun r => K r.1 r.2
      | none => iha.1 st fun e st' => match e with
        | .exit j => cond (Nat.beq j id) (K .normal st') (K (.exit j) st')
        | e => K e st', fun _ _ _ => f))
    (fun _ iha => (fun st K => iterK iha.1 f n st K, fun _ _ _ => f))
    (fun _ _ _ _ _ _ => (fun _ _ => f, fun _ _ _ => f))
    (fun id => (fun st K => K (.exit id) st, fun _ _ _ => f))
    (fun a iha => (fun st K => iha.1 st fun e st' => match e with
      | .goto l => (match findLabel a l with
        | some _ => iha.2 l st' fun e st'' => match e with
          | .goto _ => f
          | e => K e st''
        | none => f)
      | e => K e st', fun _ _ _ => f))
    (fun _ => (fun st K => K .normal st, fun _ st K => K .normal st))
    (fun l => (fun st K => K (.goto l) st, fun _ _ _ => f))
    (fun st K => K .ret st, fun _ _ _ => f)
    (fun _ => (fun _ _ => f, fun _ _ _ => f))
    c
noncomputable def exec {R : Type} (P : Program) (cx : Cx) (Λ : Nat → Option Lf) (n : Nat) (f : R) (c : Code) : St → (Ex → St → R) → R := (execB P cx Λ n f c).1
noncomputable def execL {R : Type} (P : Program) (cx : Cx) (Λ : Nat → Option Lf) (n : Nat) (f : R) (c : Code) : Nat → St → (Ex → St → R) → R := (execB P cx Λ n f c).2

def resV (st : St) : ResultVar → Option AV
  | .tmp t => lk t st.tm
  | .cell a t => match lk a st.tm with
    | some (.ptr b p t') => cond (Nat.beq t t') (match lk b st.mem with
      | some T => getP T p
      | none => none) none
    | _ => none

def resL (st : St) : List ResultVar → Option (List AV)
  | [] => some []
  | r :: l => match resV st r with
    | some v => match resL st l with
      | some q => some (v :: q)
      | none => none
    | none => none

def results' (fn : Func) (st : St) : Option AV :=
  match resL st fn.results.toList with
  | some [v] => some v
  | some l => some (.tup l)
  | none => none

/-- A whole function. -/
noncomputable def run {R : Type} (P : Program) (Γ : FuncId → Option Ct) (gl : Nat → Option AV) (ro : Nat) (mem : List (Nat × AV)) (Λ : Nat → Option Lf) (n : Nat) (fn : Func) (args : List AV) (f : R) (k : AV → R) (inl : FuncId → Option Inl := fun _ => none) : R :=
  match fn.body with
  | some c => cond (Nat.ble args.length fn.ntmps) (exec P { Γ, gl, ro, nt := fn.ntmps, inl } Λ n f c { tm := numbered 0 args, mem, nx := ro } fun e st => match e with
    | .exit _ => f
    | .goto _ => f
    | _ => match results' fn st with
      | some v => match resC P ro (fun b => lk b st.mem) fn.resultTypes.toList v with
        | some u => k u
        | none => f
      | none => f) f
  | none => f

end Go.Vx
