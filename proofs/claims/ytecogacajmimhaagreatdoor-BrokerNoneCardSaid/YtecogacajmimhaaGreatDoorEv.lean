/-
  AN EVALUATOR FOR CLOSED RUNS: what a call does on ANY tape, whatever order each region draws and whatever capacity each append draws, as a function that the kernel can compute. Here: its definitions alone.
-/
import GoSem.Step
namespace Go.Abs

/-! ## Trees by number -/
inductive Tr (α : Type) where
  | nil
  | node (l : Tr α) (v : Option α) (r : Tr α)

noncomputable def Tr.get {α : Type} (t : Tr α) : Nat → Option α :=
  Tr.rec (motive := fun _ => Nat → Option α) (fun _ => none)
    (fun _ v _ gl gr n => Nat.rec (motive := fun _ => Option α) v
      (fun k _ => Nat.rec (motive := fun _ => Option α) (gl (Nat.div k 2)) (fun _ _ => gr (Nat.div k 2)) (Nat.mod k 2)) n) t
noncomputable def Tr.set {α : Type} (f : Nat) : Tr α → Nat → Option α → Tr α :=
  Nat.rec (motive := fun _ => Tr α → Nat → Option α → Tr α) (fun t _ _ => t)
    (fun _ ih t n x => Tr.rec (motive := fun _ => Tr α)
      (Nat.rec (motive := fun _ => Tr α) (.node .nil x .nil)
        (fun k _ => Nat.rec (motive := fun _ => Tr α) (.node (ih .nil (Nat.div k 2) x) none .nil) (fun _ _ => .node .nil none (ih .nil (Nat.div k 2) x)) (Nat.mod k 2)) n)
      (fun l v r _ _ => Nat.rec (motive := fun _ => Tr α) (.node l x r)
        (fun k _ => Nat.rec (motive := fun _ => Tr α) (.node (ih l (Nat.div k 2) x) v r) (fun _ _ => .node l v (ih r (Nat.div k 2) x)) (Nat.mod k 2)) n) t) f

noncomputable def Tr.put {α : Type} (t : Tr α) (n : Nat) (x : α) : Tr α := Tr.set (Nat.succ n) t n (some x)
noncomputable def Tr.drop {α : Type} (t : Tr α) (n : Nat) : Tr α := Tr.set (Nat.succ n) t n none

/-! ## Memory -/
/-- The capacity that nobody knows: OPEN + k stands for 'what the row has, less k'. -/
def OPEN : Nat := 18446744073709551616

inductive Blk where
  | cells (elem : TypeId) (n : Nat) (pat : List Value) (over : Tr Value) (opn : Bool)
  | map (es : List (Value × Value × Nat)) (clock : Nat)
  | iter (m : Nat) (since : Nat) (seen : List Nat) (stepped : Nat)
  | loop (st : LoopState) (pend : Option Code) (fn : Nat) (nt : Nat) (tm : Tr Value) (params : Array Tmp) (assign body : Code) (defers : Nat)
  | defd (full : Bool)

inductive Hp where
  | mk (nx : Nat) (tr : Tr Blk)
def Hp.nx : Hp → Nat | .mk n _ => n
def Hp.tr : Hp → Tr Blk | .mk _ t => t
noncomputable def Hp.putB (h : Hp) (b : Nat) (x : Blk) : Hp := match h with | .mk nx tr => .mk nx (tr.put b x)
noncomputable def Hp.getB (h : Hp) (b : Nat) : Option Blk := match h with | .mk _ tr => tr.get b

noncomputable def nth {α : Type} (l : List α) : Nat → Option α :=
  List.rec (motive := fun _ => Nat → Option α) (fun _ => none) (fun x _ ih n => Nat.rec (motive := fun _ => Option α) (some x) (fun k _ => ih k) n) l

noncomputable def cellAt (n : Nat) (pat : List Value) (over : Tr Value) (i : Nat) : Option Value :=
  bif Nat.blt i n then
    match over.get i with
    | some v => some v
    | none => nth pat (Nat.mod i pat.length)
  else none

noncomputable def loadN (n : Nat) (pat : List Value) (over : Tr Value) (k : Nat) : Nat → Option (List Value) :=
  Nat.rec (motive := fun _ => Nat → Option (List Value)) (fun _ => some [])
    (fun _ ih o => (cellAt n pat over o).bind fun v => (ih (Nat.succ o)).bind fun vs => some (v :: vs)) k
noncomputable def putN (over : Tr Value) (vs : List Value) : Nat → Tr Value :=
  List.rec (motive := fun _ => Tr Value → Nat → Tr Value) (fun t _ => t) (fun v _ ih t o => ih (t.put o v) (Nat.succ o)) vs over

noncomputable def Hp.load (h : Hp) (b o k : Nat) : Option (List Value) :=
  match h.getB b with
  | some (.cells _ n pat over _) => loadN n pat over k o
  | _ => none

noncomputable def Hp.load1 (h : Hp) (b o : Nat) : Option Value :=
  match h.getB b with
  | some (.cells _ n pat over _) => cellAt n pat over o
  | _ => none

def scalar : Value → Bool
  | .agg _ | .tuple _ => false
  | _ => true

noncomputable def Hp.store (h : Hp) (b o : Nat) (vs : List Value) : Option Hp :=
  match h with
  | .mk nx tr =>
    match tr.get b with
    | some (.cells e n pat over opn) =>
      bif Nat.ble (Nat.add o vs.length) n && vs.all scalar then some (.mk nx (tr.put b (.cells e n pat (putN over vs o) opn))) else none
    | _ => none

noncomputable def Hp.new (h : Hp) (b : Blk) : Hp := match h with | .mk nx tr => .mk (Nat.succ nx) (tr.put nx b)

/-- A constant that stands for itself. -/
def okS : Value → Bool
  | .bool _ => true
  | .int _ _ => true
  | .float _ _ => true
  | .complex _ _ _ => true
  | .string _ => true
  | .pointer none => true
  | .slice none _ _ => true
  | .map none => true
  | .chan none => true
  | .nilFunc => true
  | .nilIface => true
  | _ => false
def okC : Value → Bool
  | .agg vs => vs.toList.all okS
  | .tuple vs => vs.toList.all okS
  | v => okS v
def okOp : Operand → Bool
  | .const v => okC v
  | _ => true
def opOk (o : Oper) : Bool := o.op.operands.toList.all okOp

def adr (b o : Nat) : Value := .pointer (some ⟨b, o, none⟩)
def cellsL : Value → List Value
  | .agg cs => cs.toList
  | v => [v]

/-! ## Numbers -/
def ilt : Int → Int → Bool
  | .ofNat a, .ofNat b => Nat.blt a b
  | .ofNat _, .negSucc _ => false
  | .negSucc _, .ofNat _ => true
  | .negSucc a, .negSucc b => Nat.blt b a
def ieq : Int → Int → Bool
  | .ofNat a, .ofNat b => Nat.beq a b
  | .negSucc a, .negSucc b => Nat.beq a b
  | _, _ => false
def knum : IntKind → Nat
  | .i8 => 0 | .i16 => 1 | .i32 => 2 | .i64 => 3 | .u8 => 4 | .u16 => 5 | .u32 => 6 | .u64 => 7
def keq (a b : IntKind) : Bool := Nat.beq (knum a) (knum b)
def wr : IntKind → Int → Int
  | .i64, .ofNat m => bif Nat.blt m 9223372036854775808 then .ofNat m else IntKind.wrap .i64 (.ofNat m)
  | .i64, .negSucc m => bif Nat.blt m 9223372036854775808 then .negSucc m else IntKind.wrap .i64 (.negSucc m)
  | .u64, .ofNat m => .ofNat (Nat.mod m 18446744073709551616)
  | .u32, .ofNat m => .ofNat (Nat.mod m 4294967296)
  | .u8, .ofNat m => .ofNat (Nat.mod m 256)
  | k, n => IntKind.wrap k n

def bitsOf (k : IntKind) (n : Int) : Nat :=
  match n with
  | .ofNat m => Nat.mod m (Nat.pow 2 k.bits)
  | .negSucc m => Nat.sub (Nat.pow 2 k.bits) (Nat.succ (Nat.mod m (Nat.pow 2 k.bits)))

abbrev IntOp := IntKind → Int → Int → Option Value
def oAdd : IntOp := fun k x y => some (.int k (wr k (Int.add x y)))
def oSub : IntOp := fun k x y => some (.int k (wr k (Int.sub x y)))
def oMul : IntOp := fun k x y => some (.int k (wr k (Int.mul x y)))
def oQuo : IntOp := fun k x y => bif ieq y 0 then none else some (.int k (wr k (x.tdiv y)))
def oRem : IntOp := fun k x y => bif ieq y 0 then none else some (.int k (x.tmod y))
def oAnd : IntOp := fun k x y => some (.int k (wr k (.ofNat (Nat.land (bitsOf k x) (bitsOf k y)))))
def oOr : IntOp := fun k x y => some (.int k (wr k (.ofNat (Nat.lor (bitsOf k x) (bitsOf k y)))))
def oXor : IntOp := fun k x y => some (.int k (wr k (.ofNat (Nat.xor (bitsOf k x) (bitsOf k y)))))
def oEql : IntOp := fun _ x y => some (.bool (ieq x y))
def oNeq : IntOp := fun _ x y => some (.bool (!ieq x y))
def oLss : IntOp := fun _ x y => some (.bool (ilt x y))
def oLeq : IntOp := fun _ x y => some (.bool (!ilt y x))
def oGtr : IntOp := fun _ x y => some (.bool (ilt y x))
def oGeq : IntOp := fun _ x y => some (.bool (!ilt x y))
def oNone : IntOp := fun _ _ _ => none
def oShl : IntOp := fun k x y =>
  match y with
  | .negSucc _ => none
  | .ofNat c => some (.int k (wr k (Int.mul x (Int.ofNat (Nat.pow 2 (bif Nat.ble c k.bits then c else k.bits))))))
def oShr : IntOp := fun k x y =>
  match y with
  | .negSucc _ => none
  | .ofNat c => match x with
    | .ofNat m => some (.int k (.ofNat (Nat.div m (Nat.pow 2 (bif Nat.ble c k.bits then c else k.bits)))))
    | .negSucc m => some (.int k (.negSucc (Nat.div m (Nat.pow 2 (bif Nat.ble c k.bits then c else k.bits)))))
/-- The operation on two integers, and: may their kinds differ? -/
def intOp : BinOp → IntOp
  | .add => oAdd | .sub => oSub | .mul => oMul | .quo => oQuo | .rem => oRem | .and => oAnd | .or => oOr | .xor => oXor
  | .shl => oNone | .shr => oNone | .andNot => oNone
  | .eql => oEql | .neq => oNeq | .lss => oLss | .leq => oLeq | .gtr => oGtr | .geq => oGeq
def shiftOp : BinOp → Option IntOp
  | .shl => some oShl
  | .shr => some oShr
  | _ => none

/-- '==' of two pointers, slices, maps, functions, of which one is nil. -/
def ptrEq : Value → Value → Option Bool
  | .pointer none, .pointer none => some true
  | .pointer none, .pointer (some ⟨_, _, none⟩) => some false
  | .pointer (some ⟨_, _, none⟩), .pointer none => some false
  | _, _ => none
def slcEq : Value → Value → Option Bool
  | .slice none _ _, .slice b _ _ => some b.isNone
  | .slice (some _) _ _, .slice none _ _ => some false
  | _, _ => none
def mapEq : Value → Value → Option Bool
  | .map none, .map b => some b.isNone
  | .map (some _), .map none => some false
  | _, _ => none
def szOf (P : Program) (t : TypeId) : Option Nat := (P.info? t).map (·.size)
def aggT (P : Program) (t : TypeId) : Option Bool :=
  match P.underlying t with
  | some (.struct _) => some true
  | some (.array _ _) => some true
  | some _ => some false
  | none => none
def zeroOf (P : Program) (t : TypeId) : Option Value := (P.info? t).bind fun i => i.zero.bind fun z => bif okC z then some z else none

def nilEq (P : Program) (t : TypeId) (x y : Value) : Option Bool :=
  match P.underlying t with
  | some (.pointer _) => ptrEq x y
  | some (.slice _) => slcEq x y
  | some (.map _ _) => mapEq x y
  | _ => none
def eqRes (op : BinOp) (r : Option Bool) : Option Value :=
  match op with
  | .eql => r.map .bool
  | .neq => r.map fun b => .bool (!b)
  | _ => none

def binRest (P : Program) (op : BinOp) (t : TypeId) (x y : Value) : Option Value := eqRes op (nilEq P t x y)

def evBin (P : Program) (op : BinOp) (t : TypeId) (x y : Value) : Option Value :=
  match x with
  | .int k a => (match y with
    | .int k' b => (match shiftOp op with
      | some f => f k a b
      | none => bif keq k k' then intOp op k a b else none)
    | _ => none)
  | x => binRest P op t x y

noncomputable def partOf (P : Program) (t : TypeId) (cs : List Value) (off : Nat) : Option Value :=
  (aggT P t).bind fun b => bif b then (szOf P t).bind fun n => bif Nat.ble (Nat.add off n) cs.length then some (.agg ⟨(cs.drop off).take n⟩) else none else nth cs off

/-! ### What an operation answers that makes and changes nothing -/
abbrev Env := Operand → Value
abbrev PureK := Program → Env → Option Value

def intIdx (v : Value) (n : Nat) : Option Nat :=
  match v with
  | .int _ (.ofNat i) => bif Nat.blt i n then some i else none
  | _ => none

def bnd (v : Value) (n : Nat) : Option Nat :=
  match v with
  | .int _ (.ofNat i) => bif Nat.ble i n then some i else none
  | _ => none

def bndO (v : Option Value) (n d : Nat) : Option Nat :=
  match v with
  | some v => bnd v n
  | none => some d

noncomputable def evField (P : Program) (t : TypeId) (x : Value) (f : Nat) : Option Value :=
  match P.underlying t, x with
  | some (.struct fs), .agg cs => (nth fs.toList f).bind fun fd => partOf P fd.type cs.toList fd.offset
  | _, _ => none

noncomputable def fieldAt (P : Program) (t : TypeId) (f : Nat) : Option Nat :=
  match P.underlying t with
  | some (.struct fs) => (nth fs.toList f).bind fun fd => (szOf P fd.type).bind fun s => bif Nat.beq s 0 then none else some fd.offset
  | _ => none

noncomputable def evFieldAddr (P : Program) (t : TypeId) (x : Value) (f : Nat) : Option Value :=
  match x with
  | .pointer (some ⟨b, o, none⟩) => (fieldAt P t f).bind fun d => some (adr b (Nat.add o d))
  | _ => none

noncomputable def evIndexAddr (P : Program) (t : TypeId) (x i : Value) : Option Value :=
  match P.underlying t, x with
  | some (.array n e), .pointer (some ⟨b, o, none⟩) => (szOf P e).bind fun s => (intIdx i n).bind fun i => some (adr b (Nat.add o (Nat.mul i s)))
  | some (.slice e), .slice (some ⟨b, o, none⟩) n _ => (szOf P e).bind fun s => (intIdx i n).bind fun i => some (adr b (Nat.add o (Nat.mul i s)))
  | _, _ => none

noncomputable def evIndex (P : Program) (t : TypeId) (x i : Value) : Option Value :=
  match P.underlying t, x with
  | some (.array n e), .agg cs => (szOf P e).bind fun s => (intIdx i n).bind fun i => partOf P e cs.toList (Nat.mul i s)
  | some .string, .string s => (intIdx i s.size).bind fun i => (nth s.data.toList i).map fun c => .int .u8 (.ofNat c.toNat)
  | _, _ => none

/-- The bounds of a slice of n that may grow to c: low, high, end. -/
def bnds (n c : Nat) (lo hi mx : Option Value) : Option (Nat × Nat × Nat) :=
  match mx, hi with
  | some mv, some hv => (bnd mv c).bind fun m => (bnd hv m).bind fun h => (bndO lo h 0).bind fun l => some (l, h, m)
  | some _, none => none
  | none, some hv => (bnd hv c).bind fun h => (bndO lo h 0).bind fun l => some (l, h, c)
  | none, none => (bndO lo n 0).bind fun l => some (l, n, c)

/-- A slice of what is known to its end. Where the end is open, the low place lies below the length, or is 0. -/
def evSlice (P : Program) (t : TypeId) (x : Value) (lo hi mx : Option Value) : Option Value :=
  match P.underlying t, x with
  | some (.array n e), .pointer (some ⟨b, o, none⟩) =>
    (szOf P e).bind fun s => (bnds n n lo hi mx).bind fun r =>
      bif Nat.blt r.2.2 OPEN then some (.slice (some ⟨b, bif Nat.beq r.2.2 r.1 then o else Nat.add o (Nat.mul r.1 s), none⟩) (Nat.sub r.2.1 r.1) (Nat.sub r.2.2 r.1)) else none
  | some (.slice e), .slice none n c => (szOf P e).bind fun _ => bif Nat.beq c 0 && Nat.beq n 0 then (bnds 0 0 lo hi mx).bind fun _ => some (.slice none 0 0) else none
  | some (.slice e), .slice (some ⟨b, o, none⟩) n c =>
    (szOf P e).bind fun s =>
      bif Nat.blt c OPEN then
        (bnds n c lo hi mx).bind fun r =>
          some (.slice (some ⟨b, bif Nat.beq r.2.2 r.1 then o else Nat.add o (Nat.mul r.1 s), none⟩) (Nat.sub r.2.1 r.1) (Nat.sub r.2.2 r.1))
      else
        (bnds n n lo hi mx).bind fun r =>
          bif mx.isSome then
            bif Nat.blt r.2.2 OPEN then some (.slice (some ⟨b, bif Nat.beq r.2.2 r.1 then o else Nat.add o (Nat.mul r.1 s), none⟩) (Nat.sub r.2.1 r.1) (Nat.sub r.2.2 r.1)) else none
          else bif Nat.beq r.1 0 then some (.slice (some ⟨b, o, none⟩) r.2.1 c)
          else bif Nat.blt r.1 n then some (.slice (some ⟨b, Nat.add o (Nat.mul r.1 s), none⟩) (Nat.sub r.2.1 r.1) (Nat.add c r.1))
          else none
  | _, _ => none

def mm2 (mx : Bool) (x y : Value) : Option Value :=
  match x, y with
  | .int k x, .int k' y => bif keq k k' then some (.int k (bif (bif mx then ilt x y else ilt y x) then y else x)) else none
  | _, _ => none

def mmL (mx : Bool) : Value → List Value → Option Value
  | x, [] => some x
  | x, y :: ys => (mm2 mx x y).bind fun z => mmL mx z ys

def evMM (mx : Bool) : List Value → Option Value
  | [] => none
  | x :: ys => mmL mx x ys

def lenV (P : Program) (t : TypeId) (x : Value) : Option Value :=
  match P.underlying t, x with
  | some (.slice _), .slice _ n _ => some (.int .i64 (.ofNat n))
  | _, _ => none

def evFill (place : Nat → Option (Nat × Nat)) (cells : List Value) : List (Nat × Value) → Option (List Value)
  | [] => some cells
  | (i, v) :: rest =>
    (place i).bind fun (off, size) =>
      let cs := cellsL v
      bif Nat.beq cs.length size && Nat.ble (Nat.add off size) cells.length then
        evFill place (cells.take off ++ (cs ++ cells.drop (Nat.add off size))) rest
      else none

def rep : Nat → List Value → List Value
  | 0, _ => []
  | n + 1, l => l ++ rep n l

def plcs (P : Program) : List Field → Option (List (Nat × Nat))
  | [] => some []
  | f :: fs => (szOf P f.type).bind fun s => (plcs P fs).bind fun r => some ((f.offset, s) :: r)

noncomputable def evBuild (P : Program) (t : TypeId) (parts : List (Nat × Value)) : Option Value :=
  (zeroOf P t).bind fun z =>
    match P.underlying t with
    | some (.struct fs) => (plcs P fs.toList).bind fun ps => (evFill (fun i => nth ps i) (cellsL z) parts).bind fun cs => some (.agg ⟨cs⟩)
    | some (.array _ e) => (szOf P e).bind fun s => (evFill (fun i => some (Nat.mul i s, s)) (cellsL z) parts).bind fun cs => some (.agg ⟨cs⟩)
    | _ => none

def pMove (x : Operand) : PureK := fun _ ρ => some (ρ x)
def pPick (c a b : Operand) : PureK := fun _ ρ => match ρ c with
  | .bool t => some (bif t then ρ a else ρ b)
  | _ => none
noncomputable def pBuild (t : TypeId) (ps : Array (Nat × Operand)) : PureK := fun P ρ => evBuild P t (ps.toList.map fun p => (p.1, ρ p.2))
def pNil (x : Operand) : PureK := fun _ ρ => match ρ x with
  | .pointer (some ⟨b, o, none⟩) => some (.pointer (some ⟨b, o, none⟩))
  | .func (.func f) a b => some (.func (.func f) a b)
  | .func (.yield l) a b => some (.func (.yield l) a b)
  | _ => none
def pBin (op : BinOp) (t : TypeId) (x y : Operand) : PureK := fun P ρ => evBin P op t (ρ x) (ρ y)
def pUn (op : UnOp) (x : Operand) : PureK := fun _ ρ => match op, ρ x with
  | .not, .bool b => some (.bool !b)
  | _, _ => none
def pConv (s d : TypeId) (x : Operand) : PureK := fun P ρ => match P.underlying s, P.underlying d, ρ x with
  | some _, some (.int k), .int _ n => some (.int k (wr k n))
  | _, _, _ => none
def pMkI (t : TypeId) (x : Operand) : PureK := fun P ρ => match P.underlying t with
  | some (.map _ _) => some (.iface t (ρ x))
  | _ => none
def pMkF (fn : Fn) (first captured : Array Operand) : PureK := fun _ ρ => match fn with
  | .func f => some (.func (.func f) ⟨first.toList.map ρ⟩ ⟨captured.toList.map ρ⟩)
  | _ => none
def pSlice (t : TypeId) (x : Operand) (lo hi mx : Option Operand) : PureK := fun P ρ => evSlice P t (ρ x) (lo.map ρ) (hi.map ρ) (mx.map ρ)
noncomputable def pFieldAddr (t : TypeId) (x : Operand) (f : Nat) : PureK := fun P ρ => evFieldAddr P t (ρ x) f
noncomputable def pField (t : TypeId) (x : Operand) (f : Nat) : PureK := fun P ρ => evField P t (ρ x) f
noncomputable def pIndexAddr (t : TypeId) (x i : Operand) : PureK := fun P ρ => evIndexAddr P t (ρ x) (ρ i)
noncomputable def pIndex (t : TypeId) (x i : Operand) : PureK := fun P ρ => evIndex P t (ρ x) (ρ i)
def pAssert (x : Operand) (a : TypeId) : PureK := fun P ρ => match P.underlying a, ρ x with
  | some (.map _ _), .iface t v => bif Nat.beq t a then some v else none
  | _, _ => none
noncomputable def pExtract (t : Operand) (i : Nat) : PureK := fun _ ρ => match ρ t with
  | .tuple vs => nth vs.toList i
  | _ => none
def pMax (args : Array Operand) : PureK := fun _ ρ => evMM true (args.toList.map ρ)
def pMin (args : Array Operand) : PureK := fun _ ρ => evMM false (args.toList.map ρ)

/-! ### What reads memory -/
abbrev ReadK := Program → Env → Hp → Option Value

def keyIdx (k : IntKind) (a : Int) : List (Value × Value × Nat) → Nat → Option (Option (Nat × Value))
  | [], _ => some none
  | (key, v, _) :: es, i =>
    match key with
    | .int k' b => bif keq k k' then (bif ieq a b then some (some (i, v)) else keyIdx k a es (Nat.succ i)) else none
    | _ => none

def intKey (P : Program) (t : TypeId) : Bool :=
  match P.underlying t with
  | some (.int _) => true
  | _ => false

noncomputable def lookAt (h : Hp) (x : Value) (k : IntKind) (a : Int) : Option (Option Value) :=
  match x with
  | .map none => some none
  | .map (some r) => (match h.getB r with
    | some (.map es _) => (keyIdx k a es 0).map fun
      | some (_, v) => some v
      | none => none
    | _ => none)
  | _ => none

noncomputable def evLookup (P : Program) (h : Hp) (t : TypeId) (x key : Value) (ok : Bool) : Option Value :=
  match P.underlying t, key with
  | some (.map kt et), .int k a =>
    bif intKey P kt then
      (zeroOf P et).bind fun z =>
        (lookAt h x k a).map fun
          | some v => bif ok then .tuple ⟨[v, .bool true]⟩ else v
          | none => bif ok then .tuple ⟨[z, .bool false]⟩ else z
    else none
  | _, _ => none

noncomputable def evLoad (P : Program) (h : Hp) (t : TypeId) (x : Value) : Option Value :=
  match x with
  | .pointer (some ⟨b, o, none⟩) =>
    (aggT P t).bind fun g => bif g then (szOf P t).bind fun n => (h.load b o n).map fun cs => .agg ⟨cs⟩ else h.load1 b o
  | _ => none

def findBorn (s : Nat) : List (Value × Value × Nat) → Option (Value × Value)
  | [] => none
  | (k, v, n) :: es => bif Nat.beq n s then some (k, v) else findBorn s es

def lastL : List Nat → Option Nat
  | [] => none
  | [x] => some x
  | _ :: xs => lastL xs

noncomputable def evEntry (h : Hp) (x : Value) : Option Value :=
  match x with
  | .pointer (some ⟨r, 0, none⟩) =>
    match h.getB r with
    | some (.iter m _ seen stepped) => (lastL seen).bind fun s =>
      match h.getB m with
      | some (.map es clock) => bif Nat.beq clock stepped then (findBorn s es).map fun p => .tuple ⟨[p.1, p.2]⟩ else none
      | _ => none
    | _ => none
  | _ => none

noncomputable def evLen (P : Program) (h : Hp) (t : TypeId) (x : Value) : Option Value :=
  match x with
  | .map (some r) => (match P.underlying t with
    | some (.map _ _) => (match h.getB r with
      | some (.map es _) => some (.int .i64 (.ofNat es.length))
      | _ => none)
    | _ => none)
  | x => lenV P t x

noncomputable def rLoad (t : TypeId) (x : Operand) : ReadK := fun P ρ h => evLoad P h t (ρ x)
noncomputable def rLookup (t : TypeId) (x k : Operand) (ok : Bool) : ReadK := fun P ρ h => evLookup P h t (ρ x) (ρ k) ok
noncomputable def rEntry (x : Operand) : ReadK := fun _ ρ h => evEntry h (ρ x)
noncomputable def rLen (args : Array Operand) (ts : Array TypeId) : ReadK := fun P ρ h => match args.toList, ts.toList with
  | [x], [t] => evLen P h t (ρ x)
  | _, _ => none

/-! ### What makes memory and changes none -/
abbrev AllocK := Program → Env → Nat → Option (Value × Blk)
def blkOf (e : TypeId) (v : Value) : Blk := let cs := cellsL v; .cells e cs.length cs .nil false

def aAlloc (t : TypeId) : AllocK := fun P _ id => (zeroOf P t).map fun z => (adr id 0, blkOf t z)
def aBox (t : TypeId) (x : Operand) : AllocK := fun _ ρ id => some (adr id 0, blkOf t (ρ x))
def aBuildSlice (t : TypeId) (len : Nat) (parts : Array (Nat × Operand)) : AllocK := fun P ρ id => match P.underlying t with
  | some (.slice e) => (szOf P e).bind fun s => (zeroOf P e).bind fun z =>
    bif Nat.ble (Nat.mul len s) 65536 && !Nat.beq s 0 && Nat.beq (cellsL z).length s then
      (evFill (fun i => some (Nat.mul i s, s)) (rep len (cellsL z)) (parts.toList.map fun p => (p.1, ρ p.2))).map fun cs =>
        (.slice (some ⟨id, 0, none⟩) len len, .cells e cs.length cs .nil false)
    else none
  | _ => none
def aMap : AllocK := fun _ _ id => some (.map (some id), .map [] 0)
def aMakeSlice (t : TypeId) (l c : Operand) : AllocK := fun P ρ id => match P.underlying t, ρ l, ρ c with
  | some (.slice e), .int _ (.ofNat l), .int _ (.ofNat c) =>
    (P.info? e).bind fun i => (zeroOf P e).bind fun z =>
      bif Nat.ble l c && Nat.ble c 1048576 && Nat.ble i.bytes 65536 && !Nat.beq i.size 0 && Nat.beq (cellsL z).length i.size then
        some (.slice (some ⟨id, 0, none⟩) l c, .cells e (Nat.mul c i.size) (cellsL z) .nil false)
      else none
  | _, _, _ => none

/-! ### What changes memory -/
abbrev Caller := Nat → List Value → Hp → Option (Value × Hp)
abbrev EffK := Program → Caller → Caller → Env → Hp → Option (Value × Hp)

noncomputable def evStore (P : Program) (h : Hp) (t : TypeId) (x v : Value) : Option Hp :=
  match x with
  | .pointer (some ⟨b, o, none⟩) => (szOf P t).bind fun n => bif Nat.beq (cellsL v).length n then h.store b o (cellsL v) else none
  | _ => none

noncomputable def evMapUpdate (P : Program) (h : Hp) (t : TypeId) (m key v : Value) : Option Hp :=
  match P.underlying t, m, key with
  | some (.map kt _), .map (some r), .int k a =>
    bif intKey P kt then
      match h.getB r with
      | some (.map es clock) => (keyIdx k a es 0).bind fun
        | some _ => none
        | none => some (h.putB r (.map (es ++ [(key, v, clock)]) (Nat.succ clock)))
      | _ => none
    else none
  | _, _, _ => none

noncomputable def cellsFrom (h : Hp) (size n : Nat) (v : Value) : Option (List Value) :=
  match v with
  | .slice none _ _ => bif Nat.beq n 0 then some [] else none
  | .slice (some ⟨b, o, none⟩) _ _ => h.load b o (Nat.mul n size)
  | _ => none

def lenOfV : Value → Option Nat
  | .slice _ n _ => some n
  | _ => none

def notIntT (P : Program) (t : TypeId) : Bool :=
  match P.underlying t with
  | some (.slice _) => true
  | _ => false

/-- Onto an open row: where it was, or anew; the elder row is no longer to be read. -/
noncomputable def appOpen (h : Hp) (e size n k : Nat) (s : Value) (new : List Value) : Option (Value × Hp) :=
  match s with
  | .slice (some ⟨b, o, none⟩) _ c =>
    match h.getB b with
    | some (.cells e' m _ _ true) =>
      bif Nat.beq e e' && Nat.beq o (Nat.mul (Nat.sub c OPEN) size) && Nat.beq m (Nat.add o (Nat.mul n size)) then
        (cellsFrom h size n s).bind fun old =>
          match h with
          | .mk nx tr => some (.slice (some ⟨nx, 0, none⟩) (Nat.add n k) OPEN, .mk (Nat.succ nx) ((tr.drop b).put nx (.cells e (old ++ new).length (old ++ new) .nil true)))
      else none
    | _ => none
  | _ => none

noncomputable def appKnown (h : Hp) (e size n k c : Nat) (s : Value) (new : List Value) : Option (Value × Hp) :=
  bif Nat.ble (Nat.add n k) c then
    match s with
    | .slice (some ⟨b, o, none⟩) _ _ => (h.store b (Nat.add o (Nat.mul n size)) new).bind fun h' => some (.slice (some ⟨b, o, none⟩) (Nat.add n k) c, h')
    | _ => none
  else
    (cellsFrom h size n s).bind fun old =>
      match h with
      | .mk nx tr => some (.slice (some ⟨nx, 0, none⟩) (Nat.add n k) OPEN, .mk (Nat.succ nx) (tr.put nx (.cells e (old ++ new).length (old ++ new) .nil true)))

/-- 'append': a row of which nothing more is known than that it has room. -/
noncomputable def evAppend (P : Program) (h : Hp) (ts : List TypeId) (args : List Value) : Option (Value × Hp) :=
  match ts, args with
  | t :: t1 :: _, s :: x :: _ =>
    bif notIntT P t1 then
      match P.underlying t, s with
      | some (.slice e), .slice _ n c =>
        (P.info? e).bind fun i => (zeroOf P e).bind fun z => (lenOfV x).bind fun k =>
          bif Nat.beq k 0 && Nat.ble n c then some (s, h) else
          bif Nat.ble (Nat.add n k) 1048576 && Nat.ble i.bytes 4096 && !Nat.beq i.bytes 0 && !Nat.beq i.size 0 && Nat.beq (cellsL z).length i.size then
            (cellsFrom h i.size k x).bind fun new =>
              bif Nat.beq new.length (Nat.mul k i.size) && new.all scalar then
                bif Nat.blt c OPEN then appKnown h e i.size n k c s new else appOpen h e i.size n k s new
              else none
          else none
      | _, _ => none
    else none
  | _, _ => none

noncomputable def evCopy (P : Program) (h : Hp) (ts : List TypeId) (args : List Value) : Option (Value × Hp) :=
  match ts, args with
  | t :: _, .slice (some ⟨b, o, none⟩) n _ :: x :: _ =>
    match P.underlying t with
    | some (.slice e) =>
      (szOf P e).bind fun s => (lenOfV x).bind fun k =>
        (cellsFrom h s (bif Nat.ble k n then k else n) x).bind fun new =>
          (h.store b o new).bind fun h' => some (.int .i64 (.ofNat (bif Nat.ble k n then k else n)), h')
    | _ => none
  | _, _ => none

noncomputable def evRange (P : Program) (h : Hp) (t : TypeId) (x : Value) : Option (Value × Hp) :=
  match P.underlying t, x with
  | some (.map _ _), .map (some m) => (match h.getB m with
    | some (.map _ clock) => some (adr h.nx 0, h.new (.iter m clock [] clock))
    | _ => none)
  | _, _ => none

def memN (n : Nat) : List Nat → Bool
  | [] => false
  | x :: xs => Nat.beq x n || memN n xs

/-- The next entry of a map that has one left, or none. -/
noncomputable def evNext (h : Hp) (x : Value) : Option (Value × Hp) :=
  match x with
  | .pointer (some ⟨r, 0, none⟩) =>
    match h.getB r with
    | some (.iter m since seen last) =>
      match h.getB m with
      | some (.map es clock) =>
        bif !seen.isEmpty && (!es.isEmpty && es.all fun e => Nat.ble last e.2.2) then none else
        let left := es.filter fun e => !memN e.2.2 seen
        let old := left.filter fun e => Nat.blt e.2.2 since
        let new := left.filter fun e => !Nat.blt e.2.2 since
        match old, new with
        | [], [] => some (.tuple ⟨[.bool false]⟩, h)
        | [(k, v, n)], [] => some (.tuple ⟨[.bool true, k, v]⟩, h.putB r (.iter m since (seen ++ [n]) clock))
        | _, _ => none
      | _ => none
    | _ => none
  | _ => none

/-- The number of the one function without a body that is called here ('maps.clone'). -/
def CLONE : Nat := 167
noncomputable def evClone (h : Hp) : List Value → Option (Value × Hp)
  | [.iface t (.map (some r))] => (match h.getB r with
    | some (.map es clock) => some (.iface t (.map (some h.nx)), h.new (.map es clock))
    | _ => none)
  | _ => none

noncomputable def evCall (P : Program) (cf cr : Caller) (h : Hp) (f : Value) (args : List Value) : Option (Value × Hp) :=
  match f with
  | .func (.func f) first captured =>
    match P.funcs[f]? with
    | some fn => match fn.body with
      | some _ => cf f (first.toList ++ (args ++ captured.toList)) h
      | none => bif Nat.beq f CLONE && first.isEmpty && captured.isEmpty then evClone h args else none
    | none => none
  | .func (.yield l) first captured => bif first.isEmpty && captured.isEmpty then cr l args h else none
  | _ => none

noncomputable def eStore (t : TypeId) (x v : Operand) : EffK := fun P _ _ ρ h => (evStore P h t (ρ x) (ρ v)).bind fun h' => some (.tuple #[], h')
noncomputable def eMapUpdate (t : TypeId) (m k v : Operand) : EffK := fun P _ _ ρ h => (evMapUpdate P h t (ρ m) (ρ k) (ρ v)).bind fun h' => some (.tuple #[], h')
noncomputable def eRange (t : TypeId) (x : Operand) : EffK := fun P _ _ ρ h => evRange P h t (ρ x)
noncomputable def eNext (x : Operand) : EffK := fun _ _ _ ρ h => evNext h (ρ x)
noncomputable def eAppend (args : Array Operand) (ts : Array TypeId) : EffK := fun P _ _ ρ h => evAppend P h ts.toList (args.toList.map ρ)
noncomputable def eCopy (args : Array Operand) (ts : Array TypeId) : EffK := fun P _ _ ρ h => evCopy P h ts.toList (args.toList.map ρ)
noncomputable def eCall (f : Operand) (args : Array Operand) : EffK := fun P cf cr ρ h => evCall P cf cr h (ρ f) (args.toList.map ρ)
/-- A slice of an open row from its end on: nothing in it, and nobody knows where. -/
noncomputable def eVoid (t : TypeId) (x : Operand) (lo hi : Option Operand) : EffK := fun P _ _ ρ h => match P.underlying t, ρ x with
  | some (.slice e), .slice (some ⟨_, _, none⟩) n c =>
    bif Nat.blt c OPEN then none else
    (szOf P e).bind fun _ => (bnds n n (lo.map ρ) (hi.map ρ) none).bind fun r =>
      bif Nat.beq r.1 n && Nat.beq r.2.1 n then some (.slice (some ⟨h.nx, 0, none⟩) 0 OPEN, .mk (Nat.succ h.nx) h.tr) else none
  | _, _ => none

/-! ## The operations -/
inductive Cls where
  | pure (f : PureK)
  | read (f : ReadK)
  | alloc (f : AllocK)
  | eff (f : EffK)
  | slc (f : PureK) (g : EffK)
  | bad

noncomputable def clsB (args : Array Operand) (ts : Array TypeId) : Builtin → Cls
  | .max => .pure (pMax args)
  | .min => .pure (pMin args)
  | .len => .read (rLen args ts)
  | .append => .eff (eAppend args ts)
  | .copy => .eff (eCopy args ts)
  | _ => .bad
noncomputable def clsC : Call → Cls
  | { callee := .builtin b, args, argTypes } => clsB args argTypes b
  | { callee := .value f, args, .. } => .eff (eCall f args)
  | _ => .bad
noncomputable def cls : Op → Cls
  | .move x => .pure (pMove x)
  | .assign x => .pure (pMove x)
  | .pick c a b => .pure (pPick c a b)
  | .build t ps => .pure (pBuild t ps)
  | .nilCheck x => .pure (pNil x)
  | .binOp op t x y _ => .pure (pBin op t x y)
  | .unOp op _ x => .pure (pUn op x)
  | .convert s d x => .pure (pConv s d x)
  | .makeInterface t x => .pure (pMkI t x)
  | .makeFunc fn a b => .pure (pMkF fn a b)
  | .slice t x lo hi none => .slc (pSlice t x lo hi none) (eVoid t x lo hi)
  | .slice t x lo hi (some m) => .pure (pSlice t x lo hi (some m))
  | .fieldAddr t x f => .pure (pFieldAddr t x f)
  | .field t x f => .pure (pField t x f)
  | .indexAddr t x i => .pure (pIndexAddr t x i)
  | .index t x i => .pure (pIndex t x i)
  | .typeAssert x _ a false => .pure (pAssert x a)
  | .extract t i => .pure (pExtract t i)
  | .load t x => .read (rLoad t x)
  | .lookup t x k ok => .read (rLookup t x k ok)
  | .entry x => .read (rEntry x)
  | .alloc t => .alloc (aAlloc t)
  | .box t x => .alloc (aBox t x)
  | .buildSlice t n ps => .alloc (aBuildSlice t n ps)
  | .makeMap _ none => .alloc aMap
  | .makeSlice t l c => .alloc (aMakeSlice t l c)
  | .store t x v => .eff (eStore t x v)
  | .mapUpdate t m k v => .eff (eMapUpdate t m k v)
  | .range t x => .eff (eRange t x)
  | .next x false => .eff (eNext x)
  | .call c => clsC c
  | _ => .bad

noncomputable def tmOf (tm : Tr Value) : Env
  | .tmp t => (match tm.get t with | some v => v | none => .tuple #[])
  | .const v => v
  | .global g => .pointer (some ⟨g, 0, some 1⟩)
  | .func f => .func (.func f) #[] #[]

noncomputable def dstOf (ops : List Oper) (j : Nat) : Option Tmp := (nth ops j).bind (·.dst)

/-- Does a guard let an operation run? (none: its Bool is not there.) -/
noncomputable def wants (ops : List Oper) (tm : Tr Value) (g : Option (Nat × Bool)) : Option Bool :=
  match g with
  | none => some true
  | some (j, want) => (dstOf ops j).bind fun t =>
    match tm.get t with
    | some (.bool b) => some (b == want)
    | some (.tuple _) => some false
    | _ => none

noncomputable def putTm (nt : Nat) (tm : Tr Value) (d : Option Tmp) (v : Value) : Option (Tr Value) :=
  match d with
  | none => some tm
  | some d => bif Nat.blt d nt then some (tm.put d v) else none

/-- One operation, in whatever memory. -/
noncomputable def evCls (P : Program) (cf cr : Caller) (tm : Tr Value) (h : Hp) : Cls → Option (Value × Hp)
  | .pure f => (f P (tmOf tm)).bind fun v => some (v, h)
  | .read f => (f P (tmOf tm) h).bind fun v => some (v, h)
  | .alloc f => (f P (tmOf tm) h.nx).bind fun r => some (r.1, h.new r.2)
  | .eff f => f P cf cr (tmOf tm) h
  | .slc f g => (match f P (tmOf tm) with
    | some v => some (v, h)
    | none => g P cf cr (tmOf tm) h)
  | .bad => none

/-- A region in its order. -/
noncomputable def evOps (P : Program) (cf cr : Caller) (nt : Nat) (all : List Oper) (os : List Oper) : Tr Value → Hp → Option (Tr Value × Hp) :=
  List.rec (motive := fun _ => Tr Value → Hp → Option (Tr Value × Hp)) (fun tm h => some (tm, h))
    (fun o _ ih tm h => (wants all tm o.guard).bind fun b => bif b then
        (evCls P cf cr tm h (cls o.op)).bind fun r => (putTm nt tm o.dst r.1).bind fun tm' => ih tm' r.2
      else (putTm nt tm o.dst (.tuple #[])).bind fun tm' => ih tm' h) os

/-! ### A region that draws its order -/
def bindsAny (e : Edge) : Bool :=
  match e.ground with
  | .textOnly _ => false
  | .gcOnly _ => false
  | _ => true

/-- Of each operation the set of those that stand before it, as a number's digits. -/
noncomputable def befL : List Oper → List Nat → List Nat
  | [], acc => acc
  | o :: os, acc => befL os (acc ++ [o.after.toList.foldl (fun s e => bif bindsAny e then Nat.lor s (Nat.lor (Nat.shiftLeft 1 e.on) ((nth acc e.on).getD 0)) else s) 0])

def hasBit (m i : Nat) : Bool := Nat.beq (Nat.mod (Nat.shiftRight m i) 2) 1

noncomputable def namesOf (all : List Oper) (o : Oper) : List Tmp :=
  o.op.operands.toList.filterMap (fun | .tmp t => some t | _ => none) ++ (match o.guard with
    | none => []
    | some (j, _) => (dstOf all j).toList)

/-- Are all that write what an operation names ordered with it? (i: its place; the rest from place j on.) -/
noncomputable def apartFrom (bef : List Nat) (i bi : Nat) (d : Option Tmp) (names : List Tmp) : List Oper → Nat → Bool
  | [], _ => true
  | q :: qs, j =>
    (bif Nat.beq i j then true else
      match q.dst with
      | none => true
      | some t =>
        bif memN t names || (match d with | some u => Nat.beq t u | none => false) then (bif Nat.blt j i then hasBit bi j else hasBit ((nth bef j).getD 0) i) else true) &&
    apartFrom bef i bi d names qs (Nat.succ j)

noncomputable def tmpsOk (all : List Oper) (bef : List Nat) : List Oper → Nat → Bool
  | [], _ => true
  | o :: os, i => apartFrom bef i ((nth bef i).getD 0) o.dst (namesOf all o) all 0 && tmpsOk all bef os (Nat.succ i)

def edgesOk : List Oper → Nat → Bool
  | [], _ => true
  | o :: os, i => (o.after.toList.all fun e => !bindsAny e || Nat.blt e.on i) && (match o.guard with
    | none => true
    | some (j, _) => o.after.toList.any fun e => bindsAny e && Nat.beq e.on j) && edgesOk os (Nat.succ i)

/-- Two values that are the same to the sign (false: perhaps not). -/
def sameS : Value → Value → Bool
  | .bool a, .bool b => a == b
  | .int k a, .int k' b => keq k k' && ieq a b
  | .pointer none, .pointer none => true
  | .pointer (some ⟨b, o, none⟩), .pointer (some ⟨b', o', none⟩) => Nat.beq b b' && Nat.beq o o'
  | .slice none n c, .slice none n' c' => Nat.beq n n' && Nat.beq c c'
  | .slice (some ⟨b, o, none⟩) n c, .slice (some ⟨b', o', none⟩) n' c' => Nat.beq b b' && Nat.beq o o' && Nat.beq n n' && Nat.beq c c'
  | .map none, .map none => true
  | .map (some a), .map (some b) => Nat.beq a b
  | .nilFunc, .nilFunc => true
  | _, _ => false
def sameL : List Value → List Value → Bool
  | [], [] => true
  | x :: xs, y :: ys => sameS x y && sameL xs ys
  | _, _ => false
def sameV : Value → Value → Bool
  | .agg a, .agg b => sameL a.toList b.toList
  | .tuple a, .tuple b => sameL a.toList b.toList
  | a, b => sameS a b

/-- A read that stands open: its place, what it looks at, the values there were, its answer. -/
structure Rd where
  at_ : Nat
  f : ReadK
  tm : Tr Value
  v : Value

/-- What is known on the way through a region: 'seen' are the memories between what changes memory, 'effs' the places of what changed it, the last one first. -/
structure Rg where
  tm : Tr Value
  hp : Hp
  seen : List Hp
  effs : List Nat
  pend : List (Nat × Nat × Blk)
  reads : List Rd

noncomputable def layAll : List (Nat × Nat × Blk) → Hp → Hp
  | [], h => h
  | (_, id, b) :: ps, h => layAll ps (h.putB id b)

def checkRead (P : Program) (f : ReadK) (ρ : Env) (v : Value) (h : Hp) : Bool :=
  match f P ρ h with
  | some u => sameV u v
  | _ => false

/-- Of the memories before, those in which an operation may run that has the changes 'before' behind it. -/
def earlier (P : Program) (f : ReadK) (ρ : Env) (v : Value) (bi : Nat) : List Hp → List Nat → Bool
  | h :: hs, e :: es => bif hasBit bi e then true else checkRead P f ρ v h && earlier P f ρ v bi hs es
  | _, _ => true

noncomputable def rgEff (P : Program) (cf cr : Caller) (nt : Nat) (bi i : Nat) (d : Option Tmp) (s : Rg) (f : EffK) : Option Rg :=
  bif (match s.effs with | [] => true | e :: _ => hasBit bi e) then
    (f P cf cr (tmOf s.tm) (layAll (s.pend.filter fun p => hasBit bi p.1) s.hp)).bind fun r =>
      let reads := s.reads.filter fun r => !hasBit bi r.at_
      bif reads.all fun q => checkRead P q.f (tmOf q.tm) q.v r.2 then
        (putTm nt s.tm d r.1).bind fun tm => some { tm, hp := r.2, seen := s.hp :: s.seen, effs := i :: s.effs, pend := s.pend.filter fun p => !hasBit bi p.1, reads }
      else none
  else none

noncomputable def rgOp (P : Program) (cf cr : Caller) (nt base : Nat) (bi i : Nat) (d : Option Tmp) (s : Rg) : Cls → Option Rg
  | .pure f => (f P (tmOf s.tm)).bind fun v => (putTm nt s.tm d v).bind fun tm => some { s with tm }
  | .slc f _ => (f P (tmOf s.tm)).bind fun v => (putTm nt s.tm d v).bind fun tm => some { s with tm }
  | .read f => (f P (tmOf s.tm) s.hp).bind fun v =>
      bif earlier P f (tmOf s.tm) v bi s.seen s.effs then (putTm nt s.tm d v).bind fun tm => some { s with tm, reads := ⟨i, f, s.tm, v⟩ :: s.reads } else none
  | .alloc f => (f P (tmOf s.tm) (Nat.add base i)).bind fun r => (putTm nt s.tm d r.1).bind fun tm => some { s with tm, pend := s.pend ++ [(i, Nat.add base i, r.2)] }
  | .eff f => rgEff P cf cr nt bi i d s f
  | .bad => none

noncomputable def rgOps (P : Program) (cf cr : Caller) (nt base : Nat) (all : List Oper) (bef : List Nat) : List Oper → Nat → Rg → Option Rg
  | [], _, s => some s
  | o :: os, i, s =>
    (wants all s.tm o.guard).bind fun b => bif b then
        (rgOp P cf cr nt base ((nth bef i).getD 0) i o.dst s (cls o.op)).bind fun s' => rgOps P cf cr nt base all bef os (Nat.succ i) s'
      else (putTm nt s.tm o.dst (.tuple #[])).bind fun tm => rgOps P cf cr nt base all bef os (Nat.succ i) { s with tm }

noncomputable def drawOk (ops : List Oper) : Option (List Nat) := bif edgesOk ops 0 && tmpsOk ops (befL ops []) ops 0 then some (befL ops []) else none

noncomputable def evDraw (P : Program) (cf cr : Caller) (nt : Nat) (ops : List Oper) (tm : Tr Value) (h : Hp) : Option (Tr Value × Hp) :=
  (drawOk ops).bind fun bef =>
    (rgOps P cf cr nt h.nx ops bef ops 0 { tm, hp := .mk (Nat.add h.nx ops.length) h.tr, seen := [], effs := [], pend := [], reads := [] }).bind fun s => some (s.tm, layAll s.pend s.hp)

/-! ## Steps -/
inductive Res where
  | fail
  | go (tm : Tr Value) (todo : List Item) (ds : List Nat) (h : Hp)
  | leave (j : Option Code) (tm : Tr Value) (ds : List Nat) (h : Hp)

/-- A frame that runs until it leaves: its function, how many places it has, in which round it is. -/
abbrev Leaver := Nat → Nat → Option Nat → Tr Value → List Item → List Nat → Hp → Res

noncomputable def tmList : List Value → Tr Value → Nat → Tr Value
  | [], tm, _ => tm
  | v :: vs, tm, i => tmList vs (tm.put i v) (Nat.succ i)

noncomputable def resOf (P : Program) (tm : Tr Value) (h : Hp) : List ResultVar → Option (List Value)
  | [] => some []
  | .tmp t :: rs => (resOf P tm h rs).bind fun vs => some (tmOf tm (.tmp t) :: vs)
  | .cell a t :: rs => (evLoad P h t (tmOf tm (.tmp a))).bind fun v => (resOf P tm h rs).bind fun vs => some (v :: vs)

def resV : List Value → Value
  | [v] => v
  | vs => .tuple ⟨vs⟩

noncomputable def takeDefers : List Nat → Hp → Option Hp
  | [], h => some h
  | b :: bs, h => match h.getB b with
    | some (.defd true) => takeDefers bs (h.putB b (.defd false))
    | _ => none

/-- A call of a function that has a body. -/
noncomputable def callF (P : Program) (rn : Leaver) : Caller := fun f args h =>
  match P.funcs[f]? with
  | none => none
  | some fn => match fn.body with
    | none => none
    | some c =>
      bif fn.name == "runtime.NumGoroutine" || !Nat.ble args.length fn.ntmps then none else
      match rn f fn.ntmps none (tmList args .nil 0) [.code c] [] h with
      | .leave j tm ds h' =>
        (match j with
        | none => some ()
        | some .ret => some ()
        | _ => none).bind fun _ => (takeDefers ds h').bind fun h'' => (resOf P tm h'' fn.results.toList).bind fun vs => some (resV vs, h'')
      | _ => none

noncomputable def bindParams (nt : Nat) : List Tmp → List Value → Tr Value → Option (Tr Value)
  | [], [], tm => some tm
  | t :: ts, v :: vs, tm => bif Nat.blt t nt then bindParams nt ts vs (tm.put t v) else none
  | _, _, _ => none

/-- A round of a loop over a function. -/
noncomputable def callR (rn : Leaver) : Caller := fun l args h =>
  match h.getB l with
  | some (.loop _ _ fn nt tm params assign body _) =>
    (bindParams nt params.toList args tm).bind fun tm' =>
      match rn fn nt (some l) tm' [.code assign, .beginRound, .code body] [] h with
      | .leave j _ [] h' =>
        (match h'.getB l with
        | some (.loop _ _ fn2 nt2 tm2 ps2 as2 bo2 de2) =>
          some (.bool j.isNone, h'.putB l (.loop (bif j.isNone then .ready else .done) j fn2 nt2 tm2 ps2 as2 bo2 de2))
        | _ => none)
      | _ => none
  | _ => none

abbrev StepK := Program → Caller → Leaver → Nat → Nat → Option Nat → Tr Value → List Item → List Nat → Hp → Res

def sSkip : StepK := fun _ _ _ _ _ _ tm k ds h => .go tm k ds h
def sSeq (a b : Code) : StepK := fun _ _ _ _ _ _ tm k ds h => .go tm (.code a :: .code b :: k) ds h
noncomputable def sCond (x : Operand) (a b : Code) : StepK := fun _ _ _ _ _ _ tm k ds h => match tmOf tm x with
  | .bool t => bif okOp x then .go tm (.code (bif t then a else b) :: k) ds h else .fail
  | _ => .fail
def sBlock (id : Nat) (c : Code) : StepK := fun _ _ _ _ _ _ tm k ds h => .go tm (.code c :: .inBlock id :: k) ds h
def sLoop (c : Code) : StepK := fun _ _ _ _ _ _ tm k ds h => .go tm (.code c :: .inLoop c :: k) ds h
def sScope (c : Code) : StepK := fun _ _ _ _ _ _ tm k ds h => .go tm (.code c :: .inScope c :: k) ds h
def sExit (id : Nat) : StepK := fun _ _ _ _ _ _ tm k ds h => match exitTo id k with
  | some k' => .go tm k' ds h
  | none => .fail
def sGoto (l : Nat) : StepK := fun _ _ _ _ _ _ tm k ds h => match gotoIn l k with
  | some k' => .go tm k' ds h
  | none => .fail
def sRet : StepK := fun _ _ _ _ _ _ tm _ ds h => .leave (some .ret) tm ds h
noncomputable def sRegion (ops : Array Oper) (draw : Bool) : StepK := fun P cf rn _ nt _ tm k ds h =>
  bif !ops.toList.all opOk then .fail else
  match (bif draw then evDraw P cf (callR rn) nt ops.toList tm h else evOps P cf (callR rn) nt ops.toList ops.toList tm h) with
  | some (tm', h') => .go tm' k ds h'
  | none => .fail
noncomputable def rfMark (rd : Option Nat) (h : Hp) : Option (Nat × List Nat × Hp) :=
  match rd with
  | some _ => none
  | none => some (h.nx, [h.nx], h.new (.defd true))
noncomputable def sRangeFunc (f : Operand) (params : Array Tmp) (assign body : Code) : StepK := fun P cf rn fn nt rd tm k ds h =>
  bif !okOp f then .fail else
  match rfMark rd h with
  | none => .fail
  | some (de, mark, h1) =>
    match evCall P cf (callR rn) (h1.new (.loop .ready none fn nt tm params assign body de)) (tmOf tm f) [.func (.yield h1.nx) #[] #[]] with
    | none => .fail
    | some (_, h3) =>
      match h3.getB h1.nx with
      | some (.loop st pe fn2 nt2 tm2 ps as bo de2) =>
        (match st with
        | .busy => .fail
        | _ => .go tm ((match pe with | some c => [.code c] | none => []) ++ k) (mark ++ ds) (h3.putB h1.nx (.loop .exhausted pe fn2 nt2 tm2 ps as bo de2)))
      | _ => .fail
def sFail : StepK := fun _ _ _ _ _ _ _ _ _ _ => .fail
noncomputable def sBegin : StepK := fun _ _ _ _ _ rd tm k ds h => match rd with
  | some l => (match h.getB l with
    | some (.loop .ready pe fn nt tm2 ps as bo de) => .go tm k ds (h.putB l (.loop .busy pe fn nt tm2 ps as bo de))
    | _ => .fail)
  | none => .fail

noncomputable def stepCode : Code → StepK
  | .skip => sSkip
  | .label _ => sSkip
  | .seq a b => sSeq a b
  | .cond x a b => sCond x a b
  | .block id c => sBlock id c
  | .loop c => sLoop c
  | .scope c => sScope c
  | .exit id => sExit id
  | .goto l => sGoto l
  | .ret => sRet
  | .region _ ops draw => sRegion ops draw
  | .rangeFunc f params assign body => sRangeFunc f params assign body
  | .refuse _ => sFail

noncomputable def stepIt : Item → StepK
  | .code c => stepCode c
  | .inBlock _ => sSkip
  | .inScope _ => sSkip
  | .inLoop c => sLoop c
  | .beginRound => sBegin
  | _ => sFail

noncomputable def runM (P : Program) (mc : Caller → Caller) (n : Nat) : Leaver :=
  Nat.rec (motive := fun _ => Leaver) (fun _ _ _ _ _ _ _ => .fail)
    (fun _ ih fn nt rd tm todo ds h => List.rec (motive := fun _ => Res) (.leave none tm ds h)
      (fun it k _ => Res.rec (motive := fun _ => Res) .fail (fun tm' todo' ds' h' => ih fn nt rd tm' todo' ds' h') (fun j tm' ds' h' => .leave j tm' ds' h') (stepIt it P (mc (callF P ih)) ih fn nt rd tm k ds h)) todo) n

end Go.Abs

