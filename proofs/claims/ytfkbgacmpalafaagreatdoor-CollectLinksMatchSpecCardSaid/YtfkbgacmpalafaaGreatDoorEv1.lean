/-
  An abstract evaluator.
-/
import GoSem.Dispatch
import GoSem.Core.View
namespace Go.Ev
open Go
/-! tries -/
inductive T (α : Type) where
  | nil
  | node (v : Option α) (l r : T α)
/-- the way to a number -/
inductive Pth where
  | h
  | o (p : Pth)
  | e (p : Pth)
noncomputable def pathF (fuel : Nat) : Nat → Pth :=
  @Nat.rec (fun _ => Nat → Pth) (fun _ => .h)
    (fun _ ih n => @Bool.rec (fun _ => Pth) (@Bool.rec (fun _ => Pth) (.e (ih (Nat.pred (Nat.div n 2)))) (.o (ih (Nat.div n 2))) (Nat.beq (Nat.mod n 2) 1)) .h (Nat.beq n 0)) fuel
noncomputable def path (n : Nat) : Pth := pathF (Nat.succ n) n
namespace T
variable {α : Type}
noncomputable def getP (t : T α) : Pth → Option α :=
  @T.rec α (fun _ => Pth → Option α) (fun _ => none)
    (fun v _ _ gl gr p => @Pth.rec (fun _ => Option α) v (fun p _ => gl p) (fun p _ => gr p) p) t
noncomputable def get (t : T α) (n : Nat) : Option α := getP t (path n)
/-- store or remove; the nodes on the way are laid at once -/
noncomputable def putK (p : Pth) : T α → Option α → (T α → T α) → T α :=
  @Pth.rec (fun _ => T α → Option α → (T α → T α) → T α)
    (fun t x k => @T.rec α (fun _ => T α) (k (node x nil nil)) (fun _ l r _ _ => k (node x l r)) t)
    (fun _ ih t x k => @T.rec α (fun _ => T α) (ih nil x fun l => k (node none l nil)) (fun v l r _ _ => ih l x fun l => k (node v l r)) t)
    (fun _ ih t x k => @T.rec α (fun _ => T α) (ih nil x fun r => k (node none nil r)) (fun v l r _ _ => ih r x fun r => k (node v l r)) t) p
noncomputable def putP (p : Pth) (t : T α) (x : Option α) : T α := putK p t x fun t => t
noncomputable def set (t : T α) (n : Nat) (x : α) : T α := putP (path n) t (some x)
noncomputable def del (t : T α) (n : Nat) : T α := putP (path n) t none
/-- cells off, off + stride, .. of a pattern, below n -/
noncomputable def tab (g : Nat → α) (n : Nat) (fuel : Nat) : Nat → Nat → T α :=
  @Nat.rec (fun _ => Nat → Nat → T α) (fun _ _ => nil)
    (fun _ ih off stride => @Bool.rec (fun _ => T α)
      (node (some (g off)) (ih (Nat.add off stride) (Nat.mul 2 stride)) (ih (Nat.add off (Nat.mul 2 stride)) (Nat.mul 2 stride))) nil (Nat.ble n off)) fuel
noncomputable def ofListAt (l : List α) : T α → Nat → T α :=
  @List.rec α (fun _ => T α → Nat → T α) (fun t _ => t) (fun x _ ih t i => ih (set t i x) (Nat.succ i)) l
noncomputable def ofList (l : List α) : T α := ofListAt l nil 0
end T
/-! abstract values -/
inductive AV where
  | b (x : Bool)
  | i (k : IntKind) (n : Int)
  | s (x : List UInt8)
  | p (blk off : Nat)
  | pn
  | sl (blk off len : Nat) (cap : Option Nat)
  | sn
  | m (blk : Nat)
  | mn
  | f (fn : Fn) (first cap : List AV)
  | fn
  | ifc (t : TypeId) (v : AV)
  | ifn
  | ag (l : List AV)
  | tu (l : List AV)
  deriving Inhabited
def AV.undef : AV := .tu []
def AV.cells : AV → List AV
  | .ag l => l
  | v => [v]
def AV.one : AV → Bool
  | .ag _ | .tu _ => false
  | _ => true
inductive Opd where
  | t (n : Nat)
  | c (v : AV)
  | g (n : Nat)
  | fn (n : Nat)
  deriving Inhabited
inductive Bi where
  | append (esz bytes : Nat) (zeros : Bool) (z : List AV)
  | cap | len (n : Option Nat) (tag : Nat) | copy (esz : Nat) | delete (tag : Nat) | clear | clearS (z : List AV) | max | min | panic | recover
  deriving Inhabited
inductive AOp where
  | mv (x : Opd)
  | pk (c a b : Opd)
  | al (z : List AV)
  | bx (x : Opd)
  | bd (z : List AV) (parts : List (Nat × Nat × Opd))
  | bs (z : List AV) (len esz : Nat) (parts : List (Nat × Nat × Opd))
  | ld1 (a : Opd)
  | ldn (n : Nat) (a : Opd)
  | st (n : Nat) (a x : Opd)
  | nc (x : Opd)
  | bn (op : BinOp) (x y : Opd)
  | eq (neg : Bool) (tag : Nat) (x y : Opd)
  | eqs (neg : Bool) (offs : List (Nat × Nat)) (x y : Opd)
  | un (op : UnOp) (x : Opd)
  | cvi (k : IntKind) (x : Opd)
  | cvs (x : Opd)
  | s2b (x : Opd)
  | b2s (x : Opd)
  | mf (fn : Fn) (first cap : List Opd)
  | mm
  | ms (z : List AV) (bytes : Nat) (len cap : Opd)
  | sls (x : Opd) (lo hi : Option Opd)
  | sl (esz : Nat) (x : Opd) (lo hi mx : Option Opd)
  | sla (n esz : Nat) (x : Opd) (lo hi mx : Option Opd)
  | fa (off : Nat) (x : Opd)
  | fd (off size : Nat) (agg : Bool) (x : Opd)
  | iaA (n esz : Nat) (x ix : Opd)
  | iaS (esz : Nat) (x ix : Opd)
  | ixA (n esz : Nat) (agg : Bool) (x ix : Opd)
  | ixS (x ix : Opd)
  | lk (tag : Nat) (z : AV) (ok : Bool) (x k : Opd)
  | mu (tag : Nat) (m k v : Opd)
  | me (tag : Nat) (z : AV) (m k : Opd)
  | es (m s v : Opd)
  | rgm (x : Opd)
  | rgs (x : Opd)
  | nx (str : Bool) (it : Opd)
  | en (it : Opd)
  | ex (x : Opd) (ix : Nat)
  | call (f : Opd) (args : List Opd)
  | inv (r : Opd) (m : String) (args : List Opd)
  | bi (b : Bi) (args : List Opd)
  | df (f : Opd) (args : List Opd)
  | mi (t : TypeId) (x : Opd)
  | ta (t : TypeId) (ok : Bool) (x : Opd)
  | bad (s : String)
  deriving Inhabited
structure AO where
  dst : Option Nat
  op : AOp
  guard : Option (Nat × Bool)
  deriving Inhabited
/-- a step of a region whose order is open: an operation; a load once more; a new block -/
inductive DS where
  | op (o : AO)
  | ck (o : AO)
  | al (k : Nat) (o : AO)
  deriving Inhabited
structure Stg where
  pr : List DS
  ns : List DS
  w : Option AO
  deriving Inhabited
inductive AC where
  | skip
  | reg (ops : List AO)
  | drw (k : Nat) (sts : List Stg)
  | seq (a b : AC)
  | cnd (c : Opd) (a b : AC)
  | blk (id : Nat) (b : AC)
  | loop (b : AC)
  | rf (f : Opd) (params : List Nat) (assign body : AC)
  | ex (id : Nat)
  | ret
  | bad (s : String)
  deriving Inhabited
inductive X where
  | nrm
  | ex (id : Nat)
  | ret
  deriving Inhabited
inductive Blk where
  /-- kind 0: all cells, 2: read only, 3 + z: grows by append, elements of z cells -/
  | row (kind : Nat) (c : T AV) (n : Nat)
  | map (es : List (AV × AV × Nat)) (clock : Nat)
  /-- read only -/
  | rom (es : List (AV × AV × Nat)) (clock : Nat)
  | miter (map : Option Nat) (since : Nat) (seen : List Nat) (stepped : Nat)
  | siter (s : List UInt8) (pos : Nat)
  | lp (σ : T AV) (params : List Nat) (assign body : AC) (state : Nat) (pend : Option X) (d : Nat)
  /-- the calls that the rounds of a loop have deferred: none -/
  | dfr
  deriving Inhabited
structure St where
  heap : T Blk
  nxt : Nat
  drw : Nat
inductive RVar where
  | t (n : Nat)
  | c1 (a : Nat)
  | cn (n a : Nat)
  deriving Inhabited
structure AF where
  results : List RVar
  body : AC
  deriving Inhabited
end Go.Ev
namespace Go.Ev
open Go
noncomputable section
inductive OR where
  | v (x : AV) (S : St)
  | enter (f : Nat) (args : List AV) (S : St)
  | round (l : Nat) (args : List AV) (S : St)
  | pan (x : AV) (S : St)
  | er (msg : String)
inductive R where
  | c (e : X) (σ : T AV) (S : St)
  | v (x : AV) (S : St)
  | pan (x : AV) (S : St)
  | er (msg : String)
inductive Task where
  | code (c : AC) (σ : T AV)
  | call (f : Nat) (args : List AV)
  | round (l : Nat) (args : List AV)
  | unwind (f : Nat) (σ : T AV)
def OR.o : Option AV → St → OR
  | some x => fun S => .v x S
  | none => fun _ => .er "value"
def getU (σ : T AV) (n : Nat) : AV := @Option.rec AV (fun _ => AV) .undef (fun v => v) (σ.get n)
def opd : Opd → T AV → AV
  | .t n => fun σ => getU σ n
  | .c v => fun _ => v
  | .g n => fun _ => .p n 0
  | .fn n => fun _ => .f (.func n) [] []
def opds : List Opd → T AV → List AV := fun l σ => l.map fun o => opd o σ
def opdO : Option Opd → T AV → Option AV
  | none => fun _ => none
  | some o => fun σ => some (opd o σ)
/-! numbers -/
def ilt : Int → Int → Bool
  | .ofNat a => fun y => match y with | .ofNat b => Nat.ble (Nat.succ a) b | .negSucc _ => false
  | .negSucc a => fun y => match y with | .ofNat _ => true | .negSucc b => Nat.ble (Nat.succ b) a
def ieq : Int → Int → Bool
  | .ofNat a => fun y => match y with | .ofNat b => Nat.beq a b | .negSucc _ => false
  | .negSucc a => fun y => match y with | .ofNat _ => false | .negSucc b => Nat.beq b a
def kmax : IntKind → Nat
  | .i8 => 127 | .i16 => 32767 | .i32 => 2147483647 | .i64 => 9223372036854775807
  | .u8 => 255 | .u16 => 65535 | .u32 => 4294967295 | .u64 => 18446744073709551615
def kmod : IntKind → Nat
  | .i8 => 256 | .i16 => 65536 | .i32 => 4294967296 | .i64 => 18446744073709551616
  | .u8 => 256 | .u16 => 65536 | .u32 => 4294967296 | .u64 => 18446744073709551616
def fwrap (k : IntKind) : Int → Int
  | .ofNat m => @Bool.rec (fun _ => Int) (k.wrap (.ofNat m)) (.ofNat m) (Nat.ble m (kmax k))
  | .negSucc m => k.wrap (.negSucc m)
/-- the bits of a number of a kind -/
def bitsOf (k : IntKind) : Int → Nat
  | .ofNat m => Nat.mod m (kmod k)
  | .negSucc m => Nat.sub (kmod k) (Nat.succ (Nat.mod m (kmod k)))
def bitOp (g : Nat → Nat → Nat) (k : IntKind) (x y : Int) : Int := fwrap k (.ofNat (g (bitsOf k x) (bitsOf k y)))
def andNot (k : IntKind) (a b : Nat) : Nat := Nat.land a (Nat.sub (Nat.pred (kmod k)) b)
def mkI (k : IntKind) (n : Int) : Option AV := some (.i k (fwrap k n))
def isZ : Int → Bool
  | .ofNat a => Nat.beq a 0
  | .negSucc _ => false
def intBin : BinOp → IntKind → Int → Int → Option AV
  | .add => fun k x y => mkI k (Int.add x y)
  | .sub => fun k x y => mkI k (Int.sub x y)
  | .mul => fun k x y => mkI k (Int.mul x y)
  | .quo => fun k x y => @Bool.rec (fun _ => Option AV) (mkI k (Int.tdiv x y)) none (isZ y)
  | .rem => fun k x y => @Bool.rec (fun _ => Option AV) (some (.i k (Int.tmod x y))) none (isZ y)
  | .and => fun k x y => some (.i k (bitOp Nat.land k x y))
  | .or => fun k x y => some (.i k (bitOp Nat.lor k x y))
  | .xor => fun k x y => some (.i k (bitOp Nat.xor k x y))
  | .andNot => fun k x y => some (.i k (bitOp (andNot k) k x y))
  | .lss => fun _ x y => some (.b (ilt x y))
  | .leq => fun _ x y => some (.b (not (ilt y x)))
  | .gtr => fun _ x y => some (.b (ilt y x))
  | .geq => fun _ x y => some (.b (not (ilt x y)))
  | _ => fun _ _ _ => none
def shl (k : IntKind) (x : Int) : Int → Option AV
  | .ofNat n => mkI k (Int.mul x (.ofNat (Nat.pow 2 (Nat.min n k.bits))))
  | .negSucc _ => none
def shr (k : IntKind) (x : Int) : Int → Option AV
  | .ofNat n => some (.i k (Int.fdiv x (.ofNat (Nat.pow 2 (Nat.min n k.bits)))))
  | .negSucc _ => none
def keq (a b : IntKind) : Bool := decide (a = b)
def binI (op : BinOp) (k : IntKind) (x : Int) (k' : IntKind) (y : Int) : Option AV :=
  match op with
  | .shl => shl k x y
  | .shr => shr k x y
  | op => @Bool.rec (fun _ => Option AV) none (intBin op k x y) (keq k k')
def binS : BinOp → List UInt8 → List UInt8 → Option AV
  | .add => fun a b => @Bool.rec (fun _ => Option AV) none (some (.s (a ++ b))) (Nat.ble (a.length + b.length) 9223372036854775807)
  | .lss => fun a b => some (.b (Op.bytesLess a b))
  | .leq => fun a b => some (.b (Op.bytesLess a b || a == b))
  | .gtr => fun a b => some (.b !(Op.bytesLess a b || a == b))
  | .geq => fun a b => some (.b !(Op.bytesLess a b))
  | _ => fun _ _ => none
def bin (op : BinOp) (x y : AV) : Option AV :=
  match x with
  | .i k a => match y with | .i k' b => binI op k a k' b | _ => none
  | .s a => match y with | .s b => binS op a b | _ => none
  | _ => none
def un : UnOp → AV → Option AV
  | .neg => fun x => match x with | .i k n => mkI k (Int.sub 0 n) | _ => none
  | .xor => fun x => match x with | .i k n => intBin .xor k (if k.signed then -1 else k.max) n | _ => none
  | .not => fun x => match x with | .b x => some (.b (not x)) | _ => none
  | .plus => fun _ => none
def eqI (k : IntKind) (x : Int) : AV → Option Bool
  | .i k' y => @Bool.rec (fun _ => Option Bool) none (some (ieq x y)) (keq k k')
  | _ => none
def eqv : AV → AV → Option Bool
  | .b x => fun y => match y with | .b y => some (x == y) | _ => none
  | .i k x => fun y => eqI k x y
  | .s x => fun y => match y with | .s y => some (x == y) | _ => none
  | .pn => fun y => match y with | .pn => some true | .p _ _ => some false | _ => none
  | .p _ _ => fun y => match y with | .pn => some false | _ => none
  | .sn => fun y => match y with | .sn => some true | .sl .. => some false | _ => none
  | .sl .. => fun y => match y with | .sn => some false | _ => none
  | .mn => fun y => match y with | .mn => some true | .m _ => some false | _ => none
  | .m _ => fun y => match y with | .mn => some false | _ => none
  | .fn => fun y => match y with | .fn => some true | .f .. => some false | _ => none
  | .f .. => fun y => match y with | .fn => some false | _ => none
  | _ => fun _ => none
def tagOf : AV → Nat
  | .b _ => 0 | .i .. => 1 | .s _ => 2 | .pn => 3 | .p .. => 3 | .sn => 4 | .sl .. => 4 | .mn => 5 | .m _ => 5 | .fn => 6 | .f .. => 6
  | _ => 7
def eqT (tag : Nat) (x y : AV) : Option Bool := @Bool.rec (fun _ => Option Bool) none (eqv x y) (Nat.beq (tagOf x) tag)
def eqL (xs ys : List AV) : List (Nat × Nat) → Option Bool
  | [] => some true
  | (o, tag) :: os => match xs[o]? with
    | some x => match ys[o]? with
      | some y => match eqT tag x y with
        | some true => eqL xs ys os
        | r => r
      | none => none
    | none => none
def eqS (os : List (Nat × Nat)) (x y : AV) : Option Bool :=
  match x with
  | .ag xs => match y with | .ag ys => eqL xs ys os | _ => none
  | _ => none
/-! aggregates -/
def fillAt (z : List AV) (off : Nat) : List AV → List AV
  | [] => z
  | c :: cs => fillAt (z.set off c) (off + 1) cs
def fill (z : List AV) : List (Nat × Nat × AV) → Option (List AV)
  | [] => some z
  | (off, sz, v) :: r => if v.cells.length = sz ∧ off + sz ≤ z.length then fill (fillAt z off v.cells) r else none
def partsOf (ps : List (Nat × Nat × Opd)) (σ : T AV) : List (Nat × Nat × AV) := ps.map fun (o, n, x) => (o, n, opd x σ)
/-! memory -/
def St.new (S : St) (b : Blk) : St := ⟨S.heap.set S.nxt b, Nat.succ S.nxt, S.drw⟩
def St.newRow (S : St) (kind : Nat) (l : List AV) : St := S.new (.row kind (T.ofList l) l.length)
def St.setBlk (S : St) (b : Nat) (x : Blk) : St := ⟨S.heap.set b x, S.nxt, S.drw⟩
def St.delBlk (S : St) (b : Nat) : St := ⟨S.heap.del b, S.nxt, S.drw⟩
def readCells (c : T AV) (off n : Nat) : Option (List AV) :=
  @Nat.rec (fun _ => Nat → Option (List AV)) (fun _ => some [])
    (fun _ ih off => @Option.rec AV (fun _ => Option (List AV)) none
      (fun v => @Option.rec (List AV) (fun _ => Option (List AV)) none (fun r => some (v :: r)) (ih (Nat.succ off))) (c.get off)) n off
def rowCells (off n : Nat) : Blk → Option (List AV)
  | .row _ c m => @Bool.rec (fun _ => Option (List AV)) none (readCells c off n) (Nat.ble (Nat.add off n) m)
  | _ => none
def ldCells (S : St) (b off n : Nat) : Option (List AV) := @Option.rec Blk (fun _ => Option (List AV)) none (rowCells off n) (S.heap.get b)
def rowCell (off : Nat) : Blk → Option AV
  | .row _ c m => @Bool.rec (fun _ => Option AV) none (c.get off) (Nat.ble (Nat.succ off) m)
  | _ => none
def ldCell (S : St) (b off : Nat) : Option AV := @Option.rec Blk (fun _ => Option AV) none (rowCell off) (S.heap.get b)
def setCells (l : List AV) : T AV → Nat → T AV :=
  @List.rec AV (fun _ => T AV → Nat → T AV) (fun c _ => c) (fun v _ ih c off => ih (c.set off v) (Nat.succ off)) l
def ones (l : List AV) : Bool := l.all AV.one
def putRow (l : List AV) (off : Nat) : Blk → Option Blk
  | .row k c m => @Bool.rec (fun _ => Option Blk) none
      (some (.row k (setCells l c off) m))
      (and (Nat.ble (Nat.add off l.length) m) (and (not (Nat.beq k 2)) (ones l)))
  | _ => none
def stCells (S : St) (b off : Nat) (l : List AV) : Option St :=
  match S.heap.get b with
  | some x => match putRow l off x with
    | some y => some (S.setBlk b y)
    | none => none
  | none => none
def srcCells (S : St) (esz n : Nat) : AV → Option (List AV)
  | .sl b off _ _ => ldCells S b off (Nat.mul n esz)
  | .sn => some []
  | .s l => match Nat.beq esz 1 with
    | true => some ((l.take n).map fun b => AV.i .u8 (.ofNat b.toNat))
    | false => none
  | _ => none
def lenSl : AV → Option Nat
  | .sl _ _ n _ => some n
  | .sn => some 0
  | _ => none
def lenOf : AV → Option Nat
  | .sl _ _ n _ => some n
  | .sn => some 0
  | .s l => some l.length
  | _ => none
def zeros (z : List AV) : Nat → List AV
  | 0 => []
  | n + 1 => z ++ zeros z n
def appSn (S : St) (esz n : Nat) (xs : List AV) : OR := .v (.sl S.nxt 0 n none) (S.newRow (Nat.add 3 esz) xs)
def appFix (S : St) (esz b off len c n : Nat) (xs : List AV) : OR :=
  match Nat.ble (Nat.add len n) c with
  | true => match stCells S b (Nat.add off (Nat.mul len esz)) xs with
    | some S => .v (.sl b off (Nat.add len n) (some c)) S
    | none => .er "append: store"
  | false => match ldCells S b off (Nat.mul len esz) with
    | some old => .v (.sl S.nxt 0 (Nat.add len n) none) (S.newRow (Nat.add 3 esz) (old ++ xs))
    | none => .er "append: load"
def appGrow (S : St) (esz b off len n m : Nat) (xs : List AV) (c : T AV) : OR :=
  match Nat.beq off 0 && Nat.ble (Nat.mul len esz) m with
  | true => .v (.sl S.nxt 0 (Nat.add len n) none) ((S.delBlk b).new (.row (Nat.add 3 esz) (setCells xs c (Nat.mul len esz)) (Nat.add (Nat.mul len esz) xs.length)))
  | false => match ldCells S b off (Nat.mul len esz) with
    | some old => .v (.sl S.nxt 0 (Nat.add len n) none) ((S.delBlk b).newRow (Nat.add 3 esz) (old ++ xs))
    | none => .er "append: load2"
def appRow (S : St) (esz b off len n : Nat) (xs : List AV) : Blk → OR
  | .row k c m => match Nat.beq k (Nat.add 3 esz) with
    | true => appGrow S esz b off len n m xs c
    | false => .er "append: kind"
  | _ => .er "append: stale"
def appendTo (S : St) (esz : Nat) (s : AV) (n : Nat) (xs : List AV) : OR :=
  match n with
  | 0 => .v s S
  | n + 1 => match s with
    | .sn => appSn S esz (Nat.succ n) xs
    | .sl b off len cap => match cap with
      | some c => appFix S esz b off len c (Nat.succ n) xs
      | none => match S.heap.get b with
        | some x => appRow S esz b off len (Nat.succ n) xs x
        | none => .er "append: no block"
    | _ => .er "append"
/-! maps -/
def findAt (k : AV) : List (AV × AV × Nat) → Nat → Option (Option (Nat × AV × Nat))
  | [], _ => some none
  | (k', v, born) :: es, i => match eqv k k' with
    | some true => some (some (i, v, born))
    | some false => findAt k es (Nat.succ i)
    | none => none
def findKey (tag : Nat) (k : AV) (es : List (AV × AV × Nat)) : Option (Option (Nat × AV × Nat)) :=
  @Bool.rec (fun _ => Option (Option (Nat × AV × Nat))) none (findAt k es 0) (Nat.beq (tagOf k) tag)
def mapOf (S : St) (b : Nat) : Option (List (AV × AV × Nat) × Nat) :=
  match S.heap.get b with
  | some (.map es c) => some (es, c)
  | some (.rom es c) => some (es, c)
  | _ => none
def mapW (S : St) (b : Nat) : Option (List (AV × AV × Nat) × Nat) :=
  match S.heap.get b with
  | some (.map es c) => some (es, c)
  | _ => none
def setEntry (es : List (AV × AV × Nat)) (i : Nat) (k v : AV) : List (AV × AV × Nat) :=
  es.modify i fun e => (k, v, e.2.2)
def bound (dflt y : Nat) : Option AV → Option Nat
  | none => some dflt
  | some (.i _ (.ofNat n)) => @Bool.rec (fun _ => Option Nat) none (some n) (Nat.ble n y)
  | _ => none
def slicesAt (esz b off : Nat) (l h m : Nat) : AV := .sl b (Nat.add off (Nat.mul l esz)) (Nat.sub h l) (some (Nat.sub m l))
def slicesC (esz b off len c : Nat) (lo hi mx : Option AV) : Option AV :=
  (bound c c mx).bind fun m => (bound len m hi).bind fun h => (bound 0 h lo).bind fun l => some (slicesAt esz b off l h m)
def slicesM (esz b off len : Nat) (m : AV) (lo hi : Option AV) : Option AV :=
  (bound 0 len (some m)).bind fun m => (bound len m hi).bind fun h => (bound 0 h lo).bind fun l => some (slicesAt esz b off l h m)
def slicesN (esz b off len : Nat) (lo hi : Option AV) : Blk → Option AV
  | .row k _ n => (bound len len hi).bind fun h => (bound 0 h lo).bind fun l =>
      @Bool.rec (fun _ => Option AV) none (some (.sl b (Nat.add off (Nat.mul l esz)) (Nat.sub h l) none))
        (or (Nat.beq k (Nat.add 3 esz)) (and (Nat.beq k 2) (Nat.ble (Nat.add off (Nat.mul l esz)) n)))
  | _ => none
def maxInt (a b : AV) : Option AV := match a, b with
  | .i k x, .i _ y => some (.i k (@Bool.rec (fun _ => Int) x y (ilt x y)))
  | _, _ => none
def minInt (a b : AV) : Option AV := match a, b with
  | .i k x, .i _ y => some (.i k (@Bool.rec (fun _ => Int) x y (ilt y x)))
  | _, _ => none
def foldAV (g : AV → AV → Option AV) : List AV → AV → Option AV
  | [], x => some x
  | y :: r, x => match g x y with
    | some z => foldAV g r z
    | none => none
def natI (n : Nat) : AV := .i .i64 (.ofNat n)
def appChk (S : St) (esz bytes : Nat) (s : AV) (n : Nat) (xs : List AV) : OR :=
  match lenSl s with
  | some ls => match and (ones xs) (Nat.ble (Nat.mul (Nat.add ls n) bytes) 1099511627776) with
    | true => appendTo S esz s n xs
    | false => .er "append: size"
  | none => .er "append"
def biAppend (S : St) (esz bytes : Nat) (zs : Bool) (z : List AV) (s x : AV) : OR :=
  match zs with
  | true => match x with
    | .i _ (.ofNat n) => appChk S esz bytes s n (zeros z n)
    | _ => .er "append zeros"
  | false => match lenOf x with
    | some n => match srcCells S esz n x with
      | some xs => appChk S esz bytes s n xs
      | none => .er "append source"
    | none => .er "append source"
def biCap (S : St) : AV → OR
  | .sl _ _ _ (some c) => .v (natI c) S
  | .sn => .v (natI 0) S
  | _ => .er "cap"
def biLenM (S : St) : Blk → OR
  | .map es _ => .v (natI es.length) S
  | .rom es _ => .v (natI es.length) S
  | _ => .er "len"
def biLen (S : St) : AV → OR
  | .s l => .v (natI l.length) S
  | .sl _ _ n _ => .v (natI n) S
  | .sn => .v (natI 0) S
  | .mn => .v (natI 0) S
  | .m b => match S.heap.get b with
    | some x => biLenM S x
    | none => .er "len"
  | _ => .er "len"
def biLenO (tag : Nat) (S : St) : Option Nat → AV → OR
  | some n => fun _ => .v (natI n) S
  | none => fun x => @Bool.rec (fun _ => OR) (.er "len") (biLen S x) (Nat.beq (tagOf x) tag)
def biCopyTo (S : St) (n : Nat) (xs : List AV) : AV → OR
  | .sl blk off _ _ => match xs with
    | [] => .v (natI n) S
    | _ => match stCells S blk off xs with
      | some S => .v (natI n) S
      | none => .er "copy store"
  | _ => .v (natI n) S
def biCopy (S : St) (esz : Nat) (d s : AV) : OR :=
  match lenSl d with
  | some a => match lenOf s with
    | some b => match srcCells S esz (Nat.min b a) s with
      | some xs => biCopyTo S (Nat.min b a) xs d
      | none => .er "copy source"
    | none => .er "copy"
  | none => .er "copy"
def biDelete (tag : Nat) (S : St) (m k : AV) : OR :=
  match m with
  | .mn => match findKey tag k [] with
    | some _ => .v (.tu []) S
    | none => .er "delete key"
  | .m b => match mapW S b with
    | some (es, c) => match findKey tag k es with
      | some (some (i, _, _)) => .v (.tu []) (S.setBlk b (.map (es.eraseIdx i) c))
      | some none => .v (.tu []) (S.setBlk b (.map es c))
      | none => .er "delete key"
    | none => .er "delete"
  | _ => .er "delete"
def biClear (S : St) (x : AV) : OR :=
  match x with
  | .m b => match mapW S b with
    | some (_, c) => .v (.tu []) (S.setBlk b (.map [] c))
    | none => .er "clear"
  | .mn => .v (.tu []) S
  | _ => .er "clear"
def biClearS (z : List AV) (S : St) (x : AV) : OR :=
  match x with
  | .sn => .v (.tu []) S
  | .sl b off n _ => match n with
    | 0 => .v (.tu []) S
    | n + 1 => match stCells S b off (zeros z (n + 1)) with
      | some S => .v (.tu []) S
      | none => .er "clear: store"
  | _ => .er "clear"
def one1 (k : AV → OR) : List AV → OR
  | [x] => k x
  | _ => .er "builtin"
def two2 (k : AV → AV → OR) : List AV → OR
  | [x, y] => k x y
  | _ => .er "builtin"
def some1 (k : List AV → AV → OR) : List AV → OR
  | x :: r => k r x
  | [] => .er "builtin"
def biOp : Bi → St → List AV → OR
  | .append esz bytes zs z => fun S l => two2 (biAppend S esz bytes zs z) l
  | .cap => fun S l => one1 (biCap S) l
  | .len n tag => fun S l => one1 (biLenO tag S n) l
  | .copy esz => fun S l => two2 (biCopy S esz) l
  | .delete tag => fun S l => two2 (biDelete tag S) l
  | .clear => fun S l => one1 (biClear S) l
  | .clearS z => fun S l => one1 (biClearS z S) l
  | .max => fun S l => some1 (fun r x => .o (foldAV maxInt r x) S) l
  | .min => fun S l => some1 (fun r x => .o (foldAV minInt r x) S) l
  | .panic => fun S l => one1 (fun x => .pan x S) l
  | .recover => fun _ _ => .er "recover"
def candidates (es : List (AV × AV × Nat)) (since : Nat) (seen : List Nat) : List (Option (AV × AV × Nat)) :=
  (if ((es.filter fun e => !seen.contains e.2.2).filter fun e => Nat.ble (Nat.succ e.2.2) since).isEmpty then [none] else []) ++
    (((es.filter fun e => !seen.contains e.2.2).filter fun e => Nat.ble (Nat.succ e.2.2) since) ++ ((es.filter fun e => !seen.contains e.2.2).filter fun e => Nat.ble since e.2.2)).map some
/-! operations -/
def opLd1 (S : St) : AV → OR
  | .p b o => .o (ldCell S b o) S
  | _ => .er "load"
def opLdn (n : Nat) (S : St) : AV → OR
  | .p b o => match ldCells S b o n with
    | some l => .v (.ag l) S
    | none => .er "load agg"
  | _ => .er "load"
def opSt (n : Nat) (S : St) (x : AV) : AV → OR
  | .p b o => match Nat.beq x.cells.length n with
    | true => match stCells S b o x.cells with
      | some S => .v .undef S
      | none => .er "store"
    | false => .er "store size"
  | _ => .er "store addr"
def opNc (S : St) : AV → OR
  | .p b o => .v (.p b o) S
  | .f (.func n) a c => .v (.f (.func n) a c) S
  | _ => .er "nilCheck"
def opPk (S : St) (a b : AV) : AV → OR
  | .b t => .v (@Bool.rec (fun _ => AV) b a t) S
  | _ => .er "pick"
def opEq (neg : Bool) (S : St) : Option Bool → OR
  | some r => .v (.b (@Bool.rec (fun _ => Bool) r (not r) neg)) S
  | none => .er "eq"
def opCvi (k : IntKind) (S : St) : AV → OR
  | .i _ n => .v (.i k (fwrap k n)) S
  | _ => .er "convert"
def opCvs (S : St) : AV → OR
  | .s l => .v (.s l) S
  | _ => .er "convert"
def opS2b (S : St) : AV → OR
  | .s l => .v (.sl S.nxt 0 l.length none) (S.newRow 4 (l.map fun b => AV.i .u8 (.ofNat b.toNat)))
  | _ => .er "s2b"
def byteOf : AV → Option UInt8
  | .i .u8 n => some (UInt8.ofNat n.toNat)
  | _ => none
def bytesOfCells : List AV → Option (List UInt8)
  | [] => some []
  | x :: l => match byteOf x with
    | some b => match bytesOfCells l with
      | some r => some (b :: r)
      | none => none
    | none => none
def opB2s (S : St) : AV → OR
  | .sn => .v (.s []) S
  | .sl b off n _ => match ldCells S b off n with
    | some l => match bytesOfCells l with
      | some r => .v (.s r) S
      | none => .er "b2s"
    | none => .er "b2s"
  | _ => .er "b2s"
def opMs (z : List AV) (bytes : Nat) (S : St) (l c : AV) : OR :=
  match l, c with
  | .i _ (.ofNat l), .i _ (.ofNat c) =>
    match and (Nat.ble l c) (Nat.ble (Nat.mul c bytes) 1099511627776) with
    | true => .v (.sl S.nxt 0 l (some c))
        (S.new (.row 0 (T.tab (fun j => (z[Nat.mod j z.length]?).getD .undef) (Nat.mul c z.length) (Nat.succ (Nat.mul c z.length)) 0 1) (Nat.mul c z.length)))
    | false => .er "makeSlice"
  | _, _ => .er "makeSlice"
def opSls (S : St) (lo hi : Option AV) : AV → OR
  | .s l => match bound l.length l.length hi with
    | some h => match bound 0 h lo with
      | some a => .v (.s ((l.drop a).take (h - a))) S
      | none => .er "slice string"
    | none => .er "slice string"
  | _ => .er "slice string"
def opSlN (esz b off len : Nat) (S : St) (lo hi : Option AV) : Option AV → OR
  | some m => .o (slicesM esz b off len m lo hi) S
  | none => match S.heap.get b with
    | some x => .o (slicesN esz b off len lo hi x) S
    | none => .er "slice: no block"
def opSl (esz : Nat) (S : St) (lo hi mx : Option AV) : AV → OR
  | .sl b off len cap => match cap with
    | some c => .o (slicesC esz b off len c lo hi mx) S
    | none => opSlN esz b off len S lo hi mx
  | .sn => match slicesC esz 0 0 0 0 lo hi mx with
    | some _ => .v .sn S
    | none => .er "slice nil"
  | _ => .er "slice"
def opSla (n esz : Nat) (S : St) (lo hi mx : Option AV) : AV → OR
  | .p b off => .o (slicesC esz b off n n lo hi mx) S
  | _ => .er "slice array"
def opFa (off : Nat) (S : St) : AV → OR
  | .p b o => .v (.p b (Nat.add o off)) S
  | _ => .er "fieldAddr"
def opFd (off n : Nat) (agg : Bool) (S : St) : AV → OR
  | .ag l => match agg with
    | true => .v (.ag ((l.drop off).take n)) S
    | false => .o l[off]? S
  | _ => .er "field"
def opIaA (n esz : Nat) (S : St) (ix : AV) : AV → OR
  | .p b o => match ix with
    | .i _ (.ofNat i) => match Nat.ble (Nat.succ i) n with
      | true => .v (.p b (Nat.add o (Nat.mul i esz))) S
      | false => .er "index array"
    | _ => .er "index array"
  | _ => .er "indexAddr array"
def opIaS (esz : Nat) (S : St) (ix : AV) : AV → OR
  | .sl b o len _ => match ix with
    | .i _ (.ofNat i) => match Nat.ble (Nat.succ i) len with
      | true => .v (.p b (Nat.add o (Nat.mul i esz))) S
      | false => .er "index slice"
    | _ => .er "index slice"
  | _ => .er "indexAddr slice"
def opIxA (n esz : Nat) (agg : Bool) (S : St) (ix : AV) : AV → OR
  | .ag l => match ix with
    | .i _ (.ofNat i) => match Nat.ble (Nat.succ i) n with
      | true => match agg with
        | true => .v (.ag ((l.drop (Nat.mul i esz)).take esz)) S
        | false => .o l[Nat.mul i esz]? S
      | false => .er "index array"
    | _ => .er "index array"
  | _ => .er "index array"
def opIxS (S : St) (ix : AV) : AV → OR
  | .s l => match ix with
    | .i _ (.ofNat i) => match l[i]? with
      | some b => .v (.i .u8 (.ofNat b.toNat)) S
      | none => .er "index string"
    | _ => .er "index string"
  | _ => .er "index string"
def lkRes (z : AV) (ok : Bool) (S : St) : Option (Option (Nat × AV × Nat)) → OR
  | some (some (_, v, _)) => .v (@Bool.rec (fun _ => AV) v (.tu [v, .b true]) ok) S
  | some none => .v (@Bool.rec (fun _ => AV) z (.tu [z, .b false]) ok) S
  | none => .er "lookup"
def opLk (tag : Nat) (z : AV) (ok : Bool) (S : St) (k : AV) : AV → OR
  | .mn => lkRes z ok S (findKey tag k [])
  | .m b => match mapOf S b with
    | some (es, _) => lkRes z ok S (findKey tag k es)
    | none => .er "lookup"
  | _ => .er "lookup"
def opMu (tag : Nat) (S : St) (k v : AV) : AV → OR
  | .m b => match mapW S b with
    | some (es, c) => match findKey tag k es with
      | some (some (i, _, _)) => .v .undef (S.setBlk b (.map (setEntry es i k v) c))
      | some none => .v .undef (S.setBlk b (.map (es ++ [(k, v, c)]) (Nat.succ c)))
      | none => .er "mapUpdate key"
    | none => .er "mapUpdate"
  | _ => .er "mapUpdate"
def opMe (tag : Nat) (z : AV) (S : St) (k : AV) : AV → OR
  | .m b => match mapW S b with
    | some (es, c) => match findKey tag k es with
      | some (some (i, v, born)) => .v (.tu [v, natI born]) (S.setBlk b (.map (setEntry es i k v) c))
      | some none => .v (.tu [z, natI c]) (S.setBlk b (.map (es ++ [(k, z, c)]) (Nat.succ c)))
      | none => .er "mapEntry key"
    | none => .er "mapEntry"
  | _ => .er "mapEntry"
def opEs (S : St) (s v : AV) : AV → OR
  | .m b => match s with
    | .i _ (.ofNat born) => match mapW S b with
      | some (es, c) => match es.findIdx? (fun e => Nat.beq e.2.2 born) with
        | some i => .v .undef (S.setBlk b (.map (es.modify i fun e => (e.1, v, e.2.2)) c))
        | none => .er "entryStore"
      | none => .er "entryStore"
    | _ => .er "entryStore"
  | _ => .er "entryStore"
def opRgm (S : St) : AV → OR
  | .mn => .v (.p S.nxt 0) (S.new (.miter none 0 [] 0))
  | .m b => match mapW S b with
    | some (_, c) => .v (.p S.nxt 0) (S.new (.miter (some b) c [] c))
    | none => .er "range"
  | _ => .er "range"
def pick (c n : Nat) (ch : Option Nat) : Option Nat :=
  match Nat.ble n 1 with
  | true => some c
  | false => match ch with
    | some k => some (Nat.mod k n)
    | none => none
def opNxC (S : St) (r m since : Nat) (seen : List Nat) (clock : Nat) : Option (Option (AV × AV × Nat)) → OR
  | some (some (k, v, born)) => .v (.tu [.b true, k, v]) (S.setBlk r (.miter (some m) since (seen ++ [born]) clock))
  | some none => .v (.tu [.b false]) S
  | none => .er "next"
def opNxM (ch : Option Nat) (S : St) (r m since : Nat) (seen : List Nat) (last : Nat) (es : List (AV × AV × Nat)) (clock : Nat) : OR :=
  match !seen.isEmpty && !es.isEmpty && es.all (fun e => Nat.ble last e.2.2) with
  | true => .er "next: all gone"
  | false => match pick 0 (candidates es since seen).length ch with
    | some n => opNxC S r m since seen clock (candidates es since seen)[n]?
    | none => .er "next: a choice"
def opNx (ch : Option Nat) (S : St) : AV → OR
  | .p r 0 => match S.heap.get r with
    | some (.miter none _ _ _) => .v (.tu [.b false]) S
    | some (.miter (some m) since seen last) => match mapW S m with
      | some (es, clock) => opNxM ch S r m since seen last es clock
      | none => .er "next"
    | _ => .er "next"
  | _ => .er "next"
def opEn (S : St) : AV → OR
  | .p r 0 => match S.heap.get r with
    | some (.miter (some m) _ seen stepped) => match mapW S m, seen.getLast? with
      | some (es, clock), some stamp => if clock = stepped then match es.find? (fun e => Nat.beq e.2.2 stamp) with
          | some (k, v, _) => .v (.tu [k, v]) S
          | none => .er "entry gone"
        else .er "entry"
      | _, _ => .er "entry"
    | _ => .er "entry"
  | _ => .er "entry"
def opEx (i : Nat) (S : St) : AV → OR
  | .tu l => .o l[i]? S
  | _ => .er "extract"
def opCallF (first caps args : List AV) (S : St) : Fn → OR
  | .func n => .enter n (first ++ (args ++ caps)) S
  | .yield l => .round l (first ++ args) S
  | _ => .er "call"
def opCall (S : St) (args : List AV) : AV → OR
  | .f fn first caps => opCallF first caps args S fn
  | _ => .er "call"
def opBs (len esz zl : Nat) (S : St) : Option (List AV) → OR
  | some l => match Nat.beq zl esz with
    | true => .v (.sl S.nxt 0 len (some len)) (S.newRow 0 l)
    | false => .er "buildSlice size"
  | none => .er "buildSlice"
def opBd (S : St) : Option (List AV) → OR
  | some l => .v (.ag l) S
  | none => .er "build"
def aop : AOp → Option Nat → T AV → St → OR
  | .mv x => fun _ σ S => .v (opd x σ) S
  | .pk c a b => fun _ σ S => opPk S (opd a σ) (opd b σ) (opd c σ)
  | .al z => fun _ _ S => .v (.p S.nxt 0) (S.newRow 0 z)
  | .bx x => fun _ σ S => .v (.p S.nxt 0) (S.newRow 0 (opd x σ).cells)
  | .bd z ps => fun _ σ S => opBd S (fill z (partsOf ps σ))
  | .bs z len esz ps => fun _ σ S => opBs len esz z.length S (fill (zeros z len) (partsOf ps σ))
  | .ld1 a => fun _ σ S => opLd1 S (opd a σ)
  | .ldn n a => fun _ σ S => opLdn n S (opd a σ)
  | .st n a x => fun _ σ S => opSt n S (opd x σ) (opd a σ)
  | .nc x => fun _ σ S => opNc S (opd x σ)
  | .bn op x y => fun _ σ S => .o (bin op (opd x σ) (opd y σ)) S
  | .eq neg tag x y => fun _ σ S => opEq neg S (eqT tag (opd x σ) (opd y σ))
  | .eqs neg os x y => fun _ σ S => opEq neg S (eqS os (opd x σ) (opd y σ))
  | .un op x => fun _ σ S => .o (un op (opd x σ)) S
  | .cvi k x => fun _ σ S => opCvi k S (opd x σ)
  | .cvs x => fun _ σ S => opCvs S (opd x σ)
  | .s2b x => fun _ σ S => opS2b S (opd x σ)
  | .b2s x => fun _ σ S => opB2s S (opd x σ)
  | .mf fn a c => fun _ σ S => .v (.f fn (opds a σ) (opds c σ)) S
  | .mm => fun _ _ S => .v (.m S.nxt) (S.new (.map [] 0))
  | .ms z bytes l c => fun _ σ S => opMs z bytes S (opd l σ) (opd c σ)
  | .sls x lo hi => fun _ σ S => opSls S (opdO lo σ) (opdO hi σ) (opd x σ)
  | .sl esz x lo hi mx => fun _ σ S => opSl esz S (opdO lo σ) (opdO hi σ) (opdO mx σ) (opd x σ)
  | .sla n esz x lo hi mx => fun _ σ S => opSla n esz S (opdO lo σ) (opdO hi σ) (opdO mx σ) (opd x σ)
  | .fa off x => fun _ σ S => opFa off S (opd x σ)
  | .fd off n agg x => fun _ σ S => opFd off n agg S (opd x σ)
  | .iaA n esz x ix => fun _ σ S => opIaA n esz S (opd ix σ) (opd x σ)
  | .iaS esz x ix => fun _ σ S => opIaS esz S (opd ix σ) (opd x σ)
  | .ixA n esz agg x ix => fun _ σ S => opIxA n esz agg S (opd ix σ) (opd x σ)
  | .ixS x ix => fun _ σ S => opIxS S (opd ix σ) (opd x σ)
  | .lk tag z ok x k => fun _ σ S => opLk tag z ok S (opd k σ) (opd x σ)
  | .mu tag m k v => fun _ σ S => opMu tag S (opd k σ) (opd v σ) (opd m σ)
  | .me tag z m k => fun _ σ S => opMe tag z S (opd k σ) (opd m σ)
  | .es m s v => fun _ σ S => opEs S (opd s σ) (opd v σ) (opd m σ)
  | .rgm x => fun _ σ S => opRgm S (opd x σ)
  | .rgs _ => fun _ _ _ => .er "range string"
  | .nx str it => fun ch σ S => @Bool.rec (fun _ => OR) (opNx ch S (opd it σ)) (.er "next: string") str
  | .en it => fun _ σ S => opEn S (opd it σ)
  | .ex x i => fun _ σ S => opEx i S (opd x σ)
  | .call _ _ => fun _ _ _ => .er "call"
  | .inv _ m _ => fun _ _ _ => .er m
  | .bi b args => fun _ σ S => biOp b S (opds args σ)
  | .df _ _ => fun _ _ _ => .er "defer"
  | .mi t x => fun _ σ S => .v (.ifc t (opd x σ)) S
  | .ta _ _ _ => fun _ _ _ => .er "typeAssert"
  | .bad s => fun _ _ _ => .er s
def dslot : Nat := 1000000
def rslot : Nat := 1000001
def getDefers (σ : T AV) : List AV := match σ.get dslot with | some (.tu l) => l | _ => []
def putDst : Option Nat → AV → T AV → T AV
  | some d => fun v σ => σ.set d v
  | none => fun _ σ => σ
def isB (w : Bool) : AV → Bool
  | .b x => x == w
  | _ => false
def wantedD (d : Nat) (w : Bool) (σ : T AV) : Bool := @Option.rec AV (fun _ => Bool) false (isB w) (σ.get d)
def wanted : Option (Nat × Bool) → T AV → Bool
  | none => fun _ => true
  | some (d, w) => fun σ => wantedD d w σ
def resultOf (S : St) (σ : T AV) : RVar → Option AV
  | .t n => some (getU σ n)
  | .c1 a => match σ.get a with
    | some (.p b o) => ldCell S b o
    | _ => none
  | .cn n a => match σ.get a with
    | some (.p b o) => match ldCells S b o n with
      | some l => some (.ag l)
      | none => none
    | _ => none
def resultsOf (S : St) (σ : T AV) : List RVar → Option (List AV)
  | [] => some []
  | r :: rs => match resultOf S σ r with
    | some v => match resultsOf S σ rs with
      | some l => some (v :: l)
      | none => none
    | none => none
def packR (S : St) : Option (List AV) → R
  | some [v] => .v v S
  | some vs => .v (.tu vs) S
  | none => .er "results"
def setAll : List Nat → List AV → T AV → T AV
  | p :: ps, a :: as, σ => setAll ps as (σ.set p a)
  | _, _, σ => σ
abbrev Ev := Task → St → R
def contR : R → Option Nat → T AV → (T AV → St → R) → R
  | .v v S => fun d σ k => k (putDst d v σ) S
  | .c .. => fun _ _ _ => .er "code result"
  | .pan x S => fun _ _ _ => .pan x S
  | .er s => fun _ _ _ => .er s
def contO : OR → Ev → Option Nat → T AV → (T AV → St → R) → R
  | .v v S => fun _ d σ k => k (putDst d v σ) S
  | .enter f args S => fun ev d σ k => contR (ev (.call f args) S) d σ k
  | .round l args S => fun ev d σ k => contR (ev (.round l args) S) d σ k
  | .pan x S => fun _ _ _ _ => .pan x S
  | .er s => fun _ _ _ _ => .er s
def contV : OR → Option Nat → T AV → (T AV → St → R) → R
  | .v v S => fun d σ k => k (putDst d v σ) S
  | .pan x S => fun _ _ _ => .pan x S
  | .er s => fun _ _ _ => .er s
  | _ => fun _ _ _ => .er "op"
def runOp (ev : Ev) (dst : Option Nat) (σ : T AV) (S : St) (k : T AV → St → R) : AOp → R
  | .df _ _ => .er "defer"
  | .call f args => contO (opCall S (opds args σ) (opd f σ)) ev dst σ k
  | op => contV (aop op none σ S) dst σ k
def opK (ev : Ev) (σ : T AV) (S : St) (k : T AV → St → R) (o : AO) : R :=
  @Bool.rec (fun _ => R) (k (putDst o.dst .undef σ) S) (runOp ev o.dst σ S k o.op) (wanted o.guard σ)
def opsK (l : List AO) : Ev → T AV → St → R :=
  @List.rec AO (fun _ => Ev → T AV → St → R) (fun _ σ S => .c .nrm σ S)
    (fun o _ ih ev σ S => opK ev σ S (ih ev) o) l
/-! regions whose order is open -/
def eqFn : Fn → Fn → Bool
  | .func a => fun y => match y with | .func b => Nat.beq a b | _ => false
  | _ => fun _ => false
def eqC : Option Nat → Option Nat → Bool
  | none => fun y => match y with | none => true | _ => false
  | some a => fun y => match y with | some b => Nat.beq a b | _ => false
def eqK (a b : IntKind) : Bool := Nat.beq a.ctorIdx b.ctorIdx
def eq1 : AV → AV → Bool
  | .b a => fun y => match y with | .b b => a == b | _ => false
  | .i k a => fun y => match y with | .i k' b => and (eqK k k') (ieq a b) | _ => false
  | .s a => fun y => match y with | .s b => a == b | _ => false
  | .p a o => fun y => match y with | .p b o' => and (Nat.beq a b) (Nat.beq o o') | _ => false
  | .pn => fun y => match y with | .pn => true | _ => false
  | .sl a o n c => fun y => match y with | .sl b o' n' c' => and (and (Nat.beq a b) (Nat.beq o o')) (and (Nat.beq n n') (eqC c c')) | _ => false
  | .sn => fun y => match y with | .sn => true | _ => false
  | .m a => fun y => match y with | .m b => Nat.beq a b | _ => false
  | .mn => fun y => match y with | .mn => true | _ => false
  | .f fn [] [] => fun y => match y with | .f fn' [] [] => eqFn fn fn' | _ => false
  | .fn => fun y => match y with | .fn => true | _ => false
  | .ifn => fun y => match y with | .ifn => true | _ => false
  | _ => fun _ => false
def eqs1 : List AV → List AV → Bool
  | [] => fun y => match y with | [] => true | _ => false
  | a :: l => fun y => match y with | b :: r => and (eq1 a b) (eqs1 l r) | _ => false
def eqA (x y : AV) : Bool := match x with
  | .ag l => match y with | .ag r => eqs1 l r | _ => false
  | .tu l => match y with | .tu r => eqs1 l r | _ => false
  | x => eq1 x y
/-- a new block's cells -/
def nOpBs (len esz zl id : Nat) : Option (List AV) → Option (AV × List AV)
  | some l => @Bool.rec (fun _ => Option (AV × List AV)) none (some (.sl id 0 len (some len), l)) (Nat.beq zl esz)
  | none => none
def nOp (id : Nat) (σ : T AV) : AOp → Option (AV × List AV)
  | .al z => some (.p id 0, z)
  | .bx x => some (.p id 0, (opd x σ).cells)
  | .bs z len esz ps => nOpBs len esz z.length id (fill (zeros z len) (partsOf ps σ))
  | _ => none
def alK (id : Nat) (dst : Option Nat) (σ : T AV) (S : St) (k : T AV → St → R) : Option (AV × List AV) → R
  | some (x, l) => k (putDst dst x σ) ⟨S.heap.set id (.row 0 (T.ofList l) l.length), S.nxt, S.drw⟩
  | none => .er "new block"
def ckK (dst : Option Nat) (σ : T AV) (S : St) (k : T AV → St → R) : OR → R
  | .v x S' => match dst with
    | some d => @Bool.rec (fun _ => R) (.er "an order matters") (k σ S') (eqA x (getU σ d))
    | none => k σ S'
  | .pan x S => .pan x S
  | .er s => .er s
  | _ => .er "op"
def dsK (base : Nat) (σ : T AV) (S : St) (k : T AV → St → R) : DS → R
  | .op o => @Bool.rec (fun _ => R) (k (putDst o.dst .undef σ) S) (contV (aop o.op none σ S) o.dst σ k) (wanted o.guard σ)
  | .ck o => @Bool.rec (fun _ => R) (k σ S) (ckK o.dst σ S k (aop o.op none σ S)) (wanted o.guard σ)
  | .al i o => @Bool.rec (fun _ => R) (k (putDst o.dst .undef σ) S) (alK (Nat.add base i) o.dst σ S k (nOp (Nat.add base i) σ o.op)) (wanted o.guard σ)
def dssK (base : Nat) (l : List DS) : (T AV → St → R) → T AV → St → R :=
  @List.rec DS (fun _ => (T AV → St → R) → T AV → St → R) (fun k => k)
    (fun d _ ih k σ S => dsK base σ S (ih k) d) l
def stgW (ev : Ev) (w : Option AO) (σ : T AV) (S : St) (k : T AV → St → R) : R := match w with
  | some o => opK ev σ S k o
  | none => k σ S
def drwK (ev : Ev) (base : Nat) (l : List Stg) : T AV → St → R :=
  @List.rec Stg (fun _ => T AV → St → R) (fun σ S => .c .nrm σ S)
    (fun s _ ih => dssK base s.pr (dssK base s.ns (fun σ S => stgW ev s.w σ S ih))) l
def seqK (ev : Ev) (b : AC) : R → R
  | .c .nrm σ S => ev (.code b σ) S
  | r => r
def cndK (ev : Ev) (a b : AC) (σ : T AV) (S : St) : AV → R
  | .b x => ev (.code (@Bool.rec (fun _ => AC) b a x) σ) S
  | _ => .er "cond"
def blkK (id : Nat) : R → R
  | .c (.ex j) σ S => @Bool.rec (fun _ => R) (.c (.ex j) σ S) (.c .nrm σ S) (Nat.beq j id)
  | r => r
def endRf (l : Nat) (σ : T AV) (S : St) : Option Blk → R
  | some (.lp _ _ _ _ st pend _) => match Nat.beq st 1 with
    | true => .er "rf: busy"
    | false => .c (match pend with | some e => e | none => .nrm) σ (S.delBlk l)
  | _ => .er "rf: loop"
def rfK (l : Nat) (σ : T AV) : R → R
  | .v _ S => endRf l σ S (S.heap.get l)
  | .c .. => .er "rf"
  | .pan x S => .pan x S
  | .er s => .er s
def rfO (ev : Ev) (l : Nat) (σ : T AV) : OR → R
  | .enter f args S => rfK l σ (ev (.call f args) S)
  | _ => .er "rf"
def rfGo (ev : Ev) (f : Opd) (ps : List Nat) (a b : AC) (σ : T AV) (d : Nat) (σ1 : T AV) (S : St) : R :=
  rfO ev S.nxt σ1 (opCall (S.new (.lp (σ.set dslot (.tu [])) ps a b 0 none d)) [.f (.yield S.nxt) [] []] (opd f σ))
def rfN (ev : Ev) (f : Opd) (ps : List Nat) (a b : AC) (σ : T AV) (S : St) : Option Blk → R
  | some (.lp _ _ _ _ _ _ d) => rfGo ev f ps a b σ d σ S
  | _ => .er "rf: no loop"
def rfS (ev : Ev) (f : Opd) (ps : List Nat) (a b : AC) (σ : T AV) (S : St) : Option AV → R
  | none => rfGo ev f ps a b σ S.nxt (σ.set dslot (.tu (.m S.nxt :: getDefers σ))) (S.new .dfr)
  | some (.p l _) => rfN ev f ps a b σ S (S.heap.get l)
  | _ => .er "rf: round"
def stepC : AC → Ev → T AV → St → R
  | .skip => fun _ σ S => .c .nrm σ S
  | .reg ops => fun ev σ S => opsK ops ev σ S
  | .drw k sts => fun ev σ S => drwK ev S.nxt sts σ ⟨S.heap, Nat.add S.nxt k, S.drw⟩
  | .seq a b => fun ev σ S => seqK ev b (ev (.code a σ) S)
  | .cnd c a b => fun ev σ S => cndK ev a b σ S (opd c σ)
  | .blk id b => fun ev σ S => blkK id (ev (.code b σ) S)
  | .loop b => fun ev σ S => seqK ev (.loop b) (ev (.code b σ) S)
  | .rf f ps a b => fun ev σ S => rfS ev f ps a b σ S (σ.get rslot)
  | .ex id => fun _ σ S => .c (.ex id) σ S
  | .ret => fun _ σ S => .c .ret σ S
  | .bad s => fun _ _ _ => .er s
def bodyX (ev : Ev) (f : Nat) (σ : T AV) (S : St) : X → R
  | .ex _ => .er "exit"
  | _ => ev (.unwind f σ) S
def bodyK (ev : Ev) (f : Nat) : R → R
  | .c e σ S => bodyX ev f σ S e
  | .pan x S => .pan x S
  | .er s => .er s
  | .v .. => .er "body"
/-- what functions are known to do -/
abbrev Sums := Nat → Option (List AV → St → Option (AV × St))
def callK (ev : Ev) (f : Nat) (args : List AV) (S : St) : Option AF → R
  | some fn => @Bool.rec (fun _ => R) (.er "too many arguments") (bodyK ev f (ev (.code fn.body (T.ofList args)) S)) (Nat.ble args.length 1000)
  | none => .er "no function"
def callR (F : Nat → Option AF) (ev : Ev) (f : Nat) (args : List AV) (S : St) : Option (AV × St) → R
  | some r => .v r.1 r.2
  | none => callK ev f args S (F f)
def callS (F : Nat → Option AF) (ev : Ev) (f : Nat) (args : List AV) (S : St) : Option (List AV → St → Option (AV × St)) → R
  | some g => callR F ev f args S (g args S)
  | none => callK ev f args S (F f)
def unwM (ev : Ev) (f : Nat) (σ : T AV) (S : St) (ds : List AV) (l : Nat) : Option Blk → R
  | some .dfr => ev (.unwind f (σ.set dslot (.tu ds))) (S.delBlk l)
  | _ => .er "defer: mark"
def unwD (ev : Ev) (f : Nat) (σ : T AV) (S : St) (ds : List AV) : AV → R
  | .m l => unwM ev f σ S ds l (S.heap.get l)
  | _ => .er "defer"
def unwF (σ : T AV) (S : St) : Option AF → R
  | some fn => packR S (resultsOf S σ fn.results)
  | none => .er "no function"
def unwindK (F : Nat → Option AF) (ev : Ev) (f : Nat) (σ : T AV) (S : St) : List AV → R
  | d :: ds => unwD ev f σ S ds d
  | [] => unwF σ S (F f)
def roundF (l : Nat) (e : X) (S : St) : Option Blk → R
  | some (.lp σ ps a b _ _ d) => match e with
    | .nrm => .v (.b true) (S.setBlk l (.lp σ ps a b 0 none d))
    | e => .v (.b false) (S.setBlk l (.lp σ ps a b 2 (some e) d))
  | _ => .er "round: loop"
def roundE (l : Nat) : R → R
  | .c e _ S => roundF l e S (S.heap.get l)
  | .pan x S => .pan x S
  | .er s => .er s
  | .v .. => .er "round"
def roundB (ev : Ev) (l : Nat) (b : AC) (σ1 : T AV) (S : St) : Option Blk → R
  | some (.lp σ ps a b' st pend d) => match st with
    | 0 => roundE l (ev (.code b σ1) (S.setBlk l (.lp σ ps a b' 1 pend d)))
    | _ => .er "round: not ready"
  | _ => .er "round: loop"
def roundA (ev : Ev) (l : Nat) (b : AC) : R → R
  | .c .nrm σ1 S => roundB ev l b σ1 S (S.heap.get l)
  | _ => .er "round"
def roundK (ev : Ev) (l : Nat) (args : List AV) (S : St) : Option Blk → R
  | some (.lp σ ps a b _ _ _) => match Nat.beq ps.length args.length with
    | true => roundA ev l b (ev (.code a ((setAll ps args σ).set rslot (.p l 0))) S)
    | false => .er "round: arguments"
  | _ => .er "round"
def step (U : Sums) (F : Nat → Option AF) : Task → Ev → St → R
  | .code c σ => fun ev S => stepC c ev σ S
  | .call f args => fun ev S => callS F ev f args S (U f)
  | .unwind f σ => fun ev S => unwindK F ev f σ S (getDefers σ)
  | .round l args => fun ev S => roundK ev l args S (S.heap.get l)
def ev (U : Sums) (F : Nat → Option AF) (n : Nat) : Ev :=
  @Nat.rec (fun _ => Ev) (fun _ _ => .er "fuel") (fun _ ih t S => step U F t ih S) n
end
end Go.Ev
namespace Go.Ev
open Go
/-! compiling -/
def of0 : Value → Option AV
  | .bool x => some (.b x)
  | .int k n => some (.i k n)
  | .string s => some (.s s.data.toList)
  | .pointer none => some .pn
  | .slice none 0 0 => some .sn
  | .map none => some .mn
  | .nilFunc => some .fn
  | .nilIface => some .ifn
  | _ => none
def of1 : Value → Option AV
  | .agg cs => (cs.toList.mapM of0).map .ag
  | v => of0 v
def ofV : Value → Option AV
  | .tuple vs => (vs.toList.mapM of1).map .tu
  | v => of1 v
section
variable (P : Program)
def cOpd : Operand → Option Opd
  | .tmp t => if t < 1000000 then some (.t t) else none
  | .const v => (ofV v).map .c
  | .global g => if g < P.globals.size then some (.g g) else none
  | .func f => some (.fn f)
def zeroOf (t : TypeId) : Option (List AV) := do (← (← P.info? t).zero).cells.toList.mapM of0
def sizeOf? (t : TypeId) : Option Nat := (P.info? t).map (·.size)
def isAgg? (t : TypeId) : Option Bool := match P.underlying t with
  | some (.struct _) | some (.array _ _) => some true
  | some _ => some false
  | none => none
/-- types whose values compare (the last three: with nil) -/
def tagT (t : TypeId) : Option Nat := match P.underlying t with
  | some .bool => some 0
  | some (.int _) => some 1
  | some .string => some 2
  | some (.pointer _) => some 3
  | some (.slice _) => some 4
  | some (.map _ _) => some 5
  | some (.func _ _ _) => some 6
  | _ => none
def fieldTag (f : Field) : Option (Nat × Nat) := match tagT P f.type with
  | some tag => if tag ≤ 3 ∧ f.name ≠ "_" then some (f.offset, tag) else none
  | none => none
def cmpOffs (t : TypeId) : Option (List (Nat × Nat)) := match P.underlying t with
  | some (.struct fs) => if !P.stoodInHeld t && !P.eqGuardType P.depth t then fs.toList.mapM (fieldTag P) else none
  | _ => none
def cEq (neg : Bool) (t : TypeId) (x y : Opd) : Option AOp :=
  match tagT P t with
  | some tag => some (.eq neg tag x y)
  | none => (cmpOffs P t).map fun os => .eqs neg os x y
def keyTag (t : TypeId) : Option Nat := match tagT P t with
  | some tag => if tag ≤ 2 then some tag else none
  | none => none
def zeroElem (t : TypeId) : Option AV := do of1 (← (← P.info? t).zero)
def placeOf (f : Field) : Option (Nat × Nat) := (sizeOf? P f.type).map fun n => (f.offset, n)
def cPart (place : Nat → Option (Nat × Nat)) (x : Nat × Operand) : Option (Nat × Nat × Opd) :=
  match place x.1 with
  | some p => match cOpd P x.2 with
    | some y => some (p.1, p.2, y)
    | none => none
  | none => none
def cOpdO : Option Operand → Option (Option Opd)
  | none => some none
  | some y => (cOpd P y).map some
def isIntD : TypeDesc → Bool
  | .int _ => true
  | _ => false
def cBi (c : Call) (b : Builtin) : Option Bi := do
  match b with
  | .append =>
    let st ← c.argTypes[0]?
    let .slice e ← P.underlying st | none
    let i ← P.info? e
    let d ← P.underlying (← c.argTypes[1]?)
    let z ← zeroOf P e
    guard (i.bytes ≠ 0 ∧ i.size = z.length)
    pure (.append i.size i.bytes (isIntD d) z)
  | .len => match P.underlying (← c.argTypes[0]?) with
    | some (.array n _) => pure (.len (some n) 0)
    | some (.pointer a) => match P.underlying a with
      | some (.array n _) => pure (.len (some n) 0)
      | _ => none
    | some .string => pure (.len none 2)
    | some (.slice _) => pure (.len none 4)
    | some (.map _ _) => pure (.len none 5)
    | _ => none
  | .cap => match P.underlying (← c.argTypes[0]?) with
    | some (.slice _) => pure .cap
    | _ => none
  | .copy =>
    let .slice e ← P.underlying (← c.argTypes[0]?) | none
    pure (.copy (← sizeOf? P e))
  | .delete =>
    let .map kt _ ← P.underlying (← c.argTypes[0]?) | none
    pure (.delete (← keyTag P kt))
  | .clear => match P.underlying (← c.argTypes[0]?) with
    | some (.map _ _) => pure .clear
    | some (.slice e) => (zeroOf P e).map .clearS
    | _ => none
  | .max => pure .max
  | .min => pure .min
  | .panic => pure .panic
  | .recover => pure .recover
  | _ => none
def cCall (c : Call) : Option AOp := do
  let args ← c.args.toList.mapM (cOpd P)
  match c.callee with
  | .value f => pure (.call (← cOpd P f) args)
  | .invoke r m => pure (.inv (← cOpd P r) m args)
  | .builtin b => (cBi P c b).map fun q => .bi q args
def notYield : Fn → Bool
  | .yield _ => false
  | _ => true
def notIface : TypeDesc → Bool
  | .interface _ => false
  | _ => true
def isU8 (t : TypeId) : Bool := match P.underlying t with
  | some (.int .u8) => true
  | _ => false
def cOp (op : Op) : Option AOp := do
  match op with
  | .move x | .assign x => pure (.mv (← cOpd P x))
  | .pick c a b => pure (.pk (← cOpd P c) (← cOpd P a) (← cOpd P b))
  | .alloc e => pure (.al (← zeroOf P e))
  | .box _ x => pure (.bx (← cOpd P x))
  | .build t parts =>
    let z ← zeroOf P t
    match ← P.underlying t with
    | .struct fields =>
      let places ← fields.toList.mapM (placeOf P)
      pure (.bd z (← parts.toList.mapM (cPart P fun i => places[i]?)))
    | .array _ e =>
      let sz ← sizeOf? P e
      pure (.bd z (← parts.toList.mapM (cPart P fun i => some (i * sz, sz))))
    | _ => none
  | .buildSlice t len parts =>
    let .slice e ← P.underlying t | none
    let sz ← sizeOf? P e
    guard (len * sz ≤ 2 ^ 24)
    pure (.bs (← zeroOf P e) len sz (← parts.toList.mapM (cPart P fun i => some (i * sz, sz))))
  | .load t a => if ← isAgg? P t then pure (.ldn (← sizeOf? P t) (← cOpd P a)) else pure (.ld1 (← cOpd P a))
  | .store t a x => pure (.st (← sizeOf? P t) (← cOpd P a) (← cOpd P x))
  | .nilCheck x => pure (.nc (← cOpd P x))
  | .binOp op xType x y _ => match op with
    | .eql => cEq P false xType (← cOpd P x) (← cOpd P y)
    | .neq => cEq P true xType (← cOpd P x) (← cOpd P y)
    | _ => pure (.bn op (← cOpd P x) (← cOpd P y))
  | .unOp op _ x => pure (.un op (← cOpd P x))
  | .convert src dst x => match P.underlying src, P.underlying dst with
    | some (.int _), some (.int k) => pure (.cvi k (← cOpd P x))
    | some .string, some .string => pure (.cvs (← cOpd P x))
    | some .string, some (.slice e) => if isU8 P e then pure (.s2b (← cOpd P x)) else none
    | some (.slice e), some .string => if isU8 P e then pure (.b2s (← cOpd P x)) else none
    | _, _ => none
  | .makeFunc fn first caps =>
    guard (notYield fn)
    pure (.mf fn (← first.toList.mapM (cOpd P)) (← caps.toList.mapM (cOpd P)))
  | .makeMap _ none => pure .mm
  | .makeSlice t l c =>
    let .slice e ← P.underlying t | none
    let i ← P.info? e
    let z ← zeroOf P e
    guard (i.bytes ≠ 0 ∧ i.size = z.length)
    pure (.ms z i.bytes (← cOpd P l) (← cOpd P c))
  | .slice t x lo hi mx =>
    guard (mx.isNone || hi.isSome)
    match ← P.underlying t with
    | .string => guard mx.isNone; pure (.sls (← cOpd P x) (← cOpdO P lo) (← cOpdO P hi))
    | .slice e => pure (.sl (← sizeOf? P e) (← cOpd P x) (← cOpdO P lo) (← cOpdO P hi) (← cOpdO P mx))
    | .array n e => pure (.sla n (← sizeOf? P e) (← cOpd P x) (← cOpdO P lo) (← cOpdO P hi) (← cOpdO P mx))
    | .pointer a =>
      let .array n e ← P.underlying a | none
      pure (.sla n (← sizeOf? P e) (← cOpd P x) (← cOpdO P lo) (← cOpdO P hi) (← cOpdO P mx))
    | _ => none
  | .fieldAddr s x f =>
    let .struct fields ← P.underlying s | none
    let fl ← fields[f]?
    guard ((← sizeOf? P fl.type) != 0)
    pure (.fa fl.offset (← cOpd P x))
  | .field s x f =>
    let .struct fields ← P.underlying s | none
    let fl ← fields[f]?
    pure (.fd fl.offset (← sizeOf? P fl.type) (← isAgg? P fl.type) (← cOpd P x))
  | .indexAddr t x ix => match ← P.underlying t with
    | .array n e => pure (.iaA n (← sizeOf? P e) (← cOpd P x) (← cOpd P ix))
    | .slice e => pure (.iaS (← sizeOf? P e) (← cOpd P x) (← cOpd P ix))
    | _ => none
  | .index t x ix => match ← P.underlying t with
    | .array n e => pure (.ixA n (← sizeOf? P e) (← isAgg? P e) (← cOpd P x) (← cOpd P ix))
    | .string => pure (.ixS (← cOpd P x) (← cOpd P ix))
    | _ => none
  | .lookup t x k ok =>
    let .map kt e ← P.underlying t | none
    pure (.lk (← keyTag P kt) (← zeroElem P e) ok (← cOpd P x) (← cOpd P k))
  | .mapUpdate t m k v | .insert t m k v =>
    let .map kt _ ← P.underlying t | none
    pure (.mu (← keyTag P kt) (← cOpd P m) (← cOpd P k) (← cOpd P v))
  | .mapEntry t m k =>
    let .map kt e ← P.underlying t | none
    pure (.me (← keyTag P kt) (← zeroElem P e) (← cOpd P m) (← cOpd P k))
  | .entryStore _ m s v => pure (.es (← cOpd P m) (← cOpd P s) (← cOpd P v))
  | .range t x => match ← P.underlying t with
    | .map _ _ => pure (.rgm (← cOpd P x))
    | _ => none
  | .next it str => pure (.nx str (← cOpd P it))
  | .entry it => pure (.en (← cOpd P it))
  | .extract t ix => pure (.ex (← cOpd P t) ix)
  | .call c => cCall P c
  | .defer c => match c.callee with
    | .value f => pure (.df (← cOpd P f) (← c.args.toList.mapM (cOpd P)))
    | _ => none
  | .makeInterface t x =>
    guard (notIface (← P.underlying t))
    pure (.mi t (← cOpd P x))
  | .typeAssert x _ asserted ok => pure (.ta asserted ok (← cOpd P x))
  | _ => none
def cGet (op : Op) : AOp → AOp
  | .call f as => match op with
    | .call _ => .call f as
    | _ => .bad "call"
  | x => x
def cOper (ops : Array Oper) (o : Oper) : AO :=
  match o.guard with
  | none => ⟨o.dst, cGet o.op ((cOp P o.op).getD (.bad o.pos)), none⟩
  | some (j, w) => match (ops[j]?).bind (·.dst) with
    | some d => ⟨o.dst, cGet o.op ((cOp P o.op).getD (.bad o.pos)), some (d, w)⟩
    | none => ⟨o.dst, .bad "guard", none⟩
end
/-! regions whose order is open: a schedule, and what makes it right -/
def opT : Opd → List Nat
  | .t n => [n]
  | _ => []
def opTs : List Opd → List Nat
  | [] => []
  | x :: l => opT x ++ opTs l
def optT : Option Opd → List Nat
  | some x => opT x
  | none => []
def parT : List (Nat × Nat × Opd) → List Nat
  | [] => []
  | p :: l => opT p.2.2 ++ parT l
def aopT : AOp → List Nat
  | .mv x | .bx x | .ld1 x | .ldn _ x | .nc x | .un _ x | .cvi _ x | .cvs x | .s2b x | .b2s x | .fa _ x | .fd _ _ _ x | .rgm x | .rgs x | .nx _ x | .en x | .ex x _ | .mi _ x | .ta _ _ x => opT x
  | .pk c a b => opT c ++ (opT a ++ opT b)
  | .al _ | .mm | .bad _ => []
  | .bd _ ps | .bs _ _ _ ps => parT ps
  | .st _ a x => opT a ++ opT x
  | .bn _ x y | .eq _ _ x y | .eqs _ _ x y | .iaA _ _ x y | .iaS _ x y | .ixA _ _ _ x y | .ixS x y | .lk _ _ _ x y | .ms _ _ x y | .me _ _ x y => opT x ++ opT y
  | .mf _ a c => opTs a ++ opTs c
  | .sls x lo hi => opT x ++ (optT lo ++ optT hi)
  | .sl _ x lo hi mx | .sla _ _ x lo hi mx => opT x ++ (optT lo ++ (optT hi ++ optT mx))
  | .mu _ m k v | .es m k v => opT m ++ (opT k ++ opT v)
  | .call f args | .df f args => opT f ++ opTs args
  | .inv r _ args => opT r ++ opTs args
  | .bi _ args => opTs args
def guT : Option (Nat × Bool) → List Nat
  | some (d, _) => [d]
  | none => []
def aoT (o : AO) : List Nat := guT o.guard ++ aopT o.op
/-- what an operation may do: 0 nothing but its value, 1 it reads, 2 it lays a block, 3 anything -/
def cls : AOp → Nat
  | .mv _ | .pk .. | .bd .. | .nc _ | .bn .. | .eq .. | .eqs .. | .un .. | .cvi .. | .cvs _ | .mf .. | .sls .. | .sla .. | .fa .. | .fd .. | .iaA .. | .iaS .. | .ixA .. | .ixS .. | .ex .. | .mi .. => 0
  | .bi .cap _ | .bi .max _ | .bi .min _ | .bi (.len (some _) _) _ => 0
  | .ld1 _ | .ldn .. | .lk .. | .b2s _ | .sl .. | .bi (.len none _) _ => 1
  | .al _ | .bx _ | .bs .. => 2
  | _ => 3
/-- operations that lay a block -/
def layOp : Op → Bool
  | .alloc _ | .box .. | .buildSlice .. => true
  | _ => false
def edgesOf (o : Oper) : List Nat := (o.after.toList.filter (Region.binds .any)).map (·.on)
def maskOf (acc : List Nat) : List Nat → Nat
  | [] => 0
  | j :: l => (2 ^ j ||| (acc[j]?).getD 0) ||| maskOf acc l
def masksFrom : List Oper → List Nat → List Nat
  | [], acc => acc
  | o :: l, acc => masksFrom l (acc ++ [maskOf acc (edgesOf o)])
structure SStg where
  pr : List (Nat × Bool)
  ns : List Nat
  w : Option Nat
  deriving Inhabited, DecidableEq
def reaches (ms : List Nat) (i j : Nat) : Bool := ((ms[i]?).getD 0).testBit j
def clsAt (aos : List AO) (i : Nat) : Nat := match aos[i]? with | some o => cls o.op | none => 3
def layAt (ops : Array Oper) (i : Nat) : Bool := match ops[i]? with | some o => layOp o.op | none => false
/-- 0 value, 1 load, 2 new block, 3 anything -/
def kindAt (ops : Array Oper) (aos : List AO) (i : Nat) : Nat := if layAt ops i then 2 else if clsAt aos i ≤ 1 then clsAt aos i else 3
def wsOf (ops : Array Oper) (aos : List AO) : List Nat := (List.range ops.size).filter fun i => kindAt ops aos i == 3
def loOf (ms : List Nat) (ws : List Nat) (i : Nat) : Nat := (ws.filter fun w => reaches ms i w).length
/-- new blocks: as late as may be -/
def layStage (ms : List Nat) (ws : List Nat) (i : Nat) : Nat := (ws.filter fun w => !reaches ms w i).length
def stageOf (ops : Array Oper) (aos : List AO) (ms : List Nat) (ws : List Nat) (i : Nat) : Nat × Bool :=
  match kindAt ops aos i with
  | 2 => (layStage ms ws i, true)
  | 0 =>
    let ls := ((List.range ops.size).filter fun j => kindAt ops aos j == 2 && reaches ms i j).map (layStage ms ws)
    let l := ls.foldl Nat.max 0
    if !ls.isEmpty && Nat.ble (loOf ms ws i) l then (l, true) else (loOf ms ws i, false)
  | _ => (loOf ms ws i, false)
def schedule (ops : Array Oper) (aos : List AO) (ms : List Nat) : List SStg :=
  let ws := wsOf ops aos
  let sts := (List.range ops.size).map fun i => (i, stageOf ops aos ms ws i)
  (List.range (ws.length + 1)).map fun s => {
    pr := (sts.filter fun p => kindAt ops aos p.1 != 3 && !p.2.2 && p.2.1 == s).map (fun p => (p.1, false)) ++
      (sts.filter fun p => kindAt ops aos p.1 == 1 && Nat.blt p.2.1 s && !reaches ms ((ws[s - 1]?).getD 0) p.1).map (fun p => (p.1, true))
    ns := (sts.filter fun p => kindAt ops aos p.1 != 3 && p.2.2 && p.2.1 == s).map (·.1)
    w := ws[s]? }
def dstAt (aos : List AO) (i : Nat) : Option Nat := match aos[i]? with | some o => o.dst | none => none
def tmpsAt (aos : List AO) (i : Nat) : List Nat := match aos[i]? with | some o => aoT o | none => []
def flatS (s : SStg) : List (Nat × Bool) := s.pr ++ (s.ns.map (fun i => (i, false)) ++ (match s.w with | some w => [(w, false)] | none => []))
def flat : List SStg → List (Nat × Bool)
  | [] => []
  | s :: l => flatS s ++ flat l
def opsIn (l : List (Nat × Bool)) : List Nat := (l.filter fun p => !p.2).map (·.1)
/-- each operand is assigned before, or by operations that must come later; nothing is assigned twice -/
def ordOp (aos : List AO) (ms : List Nat) (pre : List Nat) (i : Nat) (rest : List Nat) (d : Nat) : Bool :=
  match pre.find? (fun j => dstAt aos j == some d) with
  | some j => reaches ms i j
  | none => rest.all fun j => dstAt aos j != some d || reaches ms j i
def ordOk (aos : List AO) (ms : List Nat) : List Nat → List (Nat × Bool) → Bool
  | _, [] => true
  | pre, p :: l => (tmpsAt aos p.1).all (ordOp aos ms pre p.1 (opsIn (p :: l))) && ((match dstAt aos p.1 with | some d => (opsIn l).all (fun j => dstAt aos j != some d) | none => true) && ordOk aos ms (if p.2 then pre else p.1 :: pre) l)
def wAt (si : List SStg) (k : Nat) : Option Nat := match si[k]? with | some s => s.w | none => none
def reachW (ms : List Nat) (si : List SStg) (i k : Nat) : Bool := match wAt si k with | some w => reaches ms i w | none => false
def wReach (ms : List Nat) (si : List SStg) (k i : Nat) : Bool := match wAt si k with | some w => reaches ms w i | none => false
def hasCk (si : List SStg) (m i : Nat) : Bool := match si[m]? with | some s => s.pr.contains (i, true) | none => false
def okRead (ms : List Nat) (si : List SStg) (s i : Nat) : Bool :=
  (List.range s).all (fun k => reachW ms si i k) && (List.range si.length).all fun m => Nat.ble m s || (wReach ms si (m - 1) i || hasCk si m i)
def okStg (ops : Array Oper) (aos : List AO) (ms : List Nat) (si : List SStg) (s : Nat) (st : SStg) : Bool :=
  st.pr.all (fun p => Nat.ble (kindAt ops aos p.1) 1 && (p.2 || kindAt ops aos p.1 == 0 || okRead ms si s p.1)) &&
  (st.ns.all (fun i => kindAt ops aos i == 0 || (kindAt ops aos i == 2 && (clsAt aos i == 2 && (Nat.beq (s + 1) si.length || wReach ms si s i)))) &&
  (st.w.isSome == Nat.blt (s + 1) si.length))
def okStgs (ops : Array Oper) (aos : List AO) (ms : List Nat) (si : List SStg) : Nat → List SStg → Bool
  | _, [] => true
  | s, st :: l => okStg ops aos ms si s st && okStgs ops aos ms si (s + 1) l
def okSch (ops : Array Oper) (aos : List AO) (ms : List Nat) (si : List SStg) : Bool :=
  !si.isEmpty && (okStgs ops aos ms si 0 si && (ordOk aos ms [] (flat si) &&
  ((List.range ops.size).all (fun i => ((flat si).filter fun p => !p.2 && p.1 == i).length == 1) &&
  ((flat si).all (fun p => Nat.blt p.1 ops.size) &&
  ((List.range si.length).all (fun k => Nat.ble si.length (k + 2) || (match wAt si (k + 1) with | some w => reachW ms si w k | none => false)) &&
  (ops.toList.zipIdx.all fun p => (edgesOf p.1).all fun j => Nat.blt j p.2))))))
def toDS (ops : Array Oper) (aos : List AO) (p : Nat × Bool) : DS := match aos[p.1]? with
  | some o => if p.2 then .ck o else if layAt ops p.1 then .al p.1 o else .op o
  | none => default
def toStg (ops : Array Oper) (aos : List AO) (s : SStg) : Stg :=
  ⟨s.pr.map (toDS ops aos), s.ns.map (fun i => toDS ops aos (i, false)), match s.w with | some w => aos[w]? | none => none⟩
def cDraw2 (ops : Array Oper) (aos : List AO) (ms : List Nat) (si : List SStg) : AC :=
  if okSch ops aos ms si then .drw (if ops.any (fun o => layOp o.op) then ops.size else 0) (si.map (toStg ops aos)) else .bad "draw"
def cDraw1 (ops : Array Oper) (aos : List AO) (ms : List Nat) : AC := cDraw2 ops aos ms (schedule ops aos ms)
def cDraw (ops : Array Oper) (aos : List AO) : AC := cDraw1 ops aos (masksFrom ops.toList [])
section
variable (P : Program)
def cReg (ops : Array Oper) : Bool → AC
  | false => .reg (ops.toList.map (cOper P ops))
  | true => cDraw ops (ops.toList.map (cOper P ops))
def cCode : Code → AC
  | .skip => .skip
  | .region _ ops draw => cReg P ops draw
  | .seq a b => .seq (cCode a) (cCode b)
  | .cond c a b => match cOpd P c with
    | some c => .cnd c (cCode a) (cCode b)
    | none => .bad "cond"
  | .block id b => .blk id (cCode b)
  | .loop b => .loop (cCode b)
  | .rangeFunc f ps a b => match cOpd P f with
    | some f => .rf f ps.toList (cCode a) (cCode b)
    | none => .bad "rangeFunc"
  | .exit id => .ex id
  | .scope _ => .bad "scope"
  | .label _ => .bad "label"
  | .goto _ => .bad "goto"
  | .ret => .ret
  | .refuse w => .bad w
def cRes : ResultVar → Option RVar
  | .tmp t => if t < 1000000 then some (.t t) else none
  | .cell a t => if a < 1000000 then (match isAgg? P t with
    | some true => (sizeOf? P t).map fun n => .cn n a
    | some false => some (.c1 a)
    | none => none) else none
def cFunc (fn : Func) : Option AF :=
  match fn.results.toList.mapM (cRes P) with
  | some rs => match fn.body with
    | some c => some { results := rs, body := cCode P c }
    | none => none
  | none => none
end
end Go.Ev
namespace Go.Ev
open Go
noncomputable section
/-! an evaluator for the kernel: each operation is turned into a function once (`Box`: its value is met as the major premise of a recursor), values are forced where they arise -/
structure Box (α : Type) where
  f : α
def un1 {α β : Type} (b : Box α) (k : α → β) : β := @Box.rec α (fun _ => β) k b
section
variable {β : Type}
def fNat (n : Nat) (k : Nat → β) : β := @Nat.rec (fun _ => β) (k 0) (fun m _ => k (Nat.succ m)) n
def fInt (i : Int) (k : Int → β) : β := @Int.rec (fun _ => β) (fun m => fNat m fun m => k (.ofNat m)) (fun m => fNat m fun m => k (.negSucc m)) i
def fBool (b : Bool) (k : Bool → β) : β := @Bool.rec (fun _ => β) (k false) (k true) b
def fKind (i : IntKind) (k : IntKind → β) : β := match i with
  | .i8 => k .i8 | .i16 => k .i16 | .i32 => k .i32 | .i64 => k .i64 | .u8 => k .u8 | .u16 => k .u16 | .u32 => k .u32 | .u64 => k .u64
def fT {α : Type} (t : T α) (k : T α → β) : β := @T.rec α (fun _ => β) (k .nil) (fun v l r _ _ => k (.node v l r)) t
def fAV (x : AV) (k : AV → β) : β := match x with
  | .b x => fBool x fun x => k (.b x)
  | .i kd n => fInt n fun n => k (.i kd n)
  | .p b o => fNat b fun b => fNat o fun o => k (.p b o)
  | .sl b o n c => fNat b fun b => fNat o fun o => fNat n fun n => k (.sl b o n c)
  | x => k x
def fSt (S : St) (k : St → β) : β := @St.rec (fun _ => β) (fun h n d => fT h fun h => fNat n fun n => k ⟨h, n, d⟩) S
end
theorem fNat_eq {β : Type} (n : Nat) (k : Nat → β) : fNat n k = k n := by cases n <;> rfl
theorem fInt_eq {β : Type} (n : Int) (k : Int → β) : fInt n k = k n := by
  cases n with
  | ofNat m => exact fNat_eq m fun m => k (.ofNat m)
  | negSucc m => exact fNat_eq m fun m => k (.negSucc m)
theorem fBool_eq {β : Type} (b : Bool) (k : Bool → β) : fBool b k = k b := by cases b <;> rfl
theorem fT_eq {α β : Type} (t : T α) (k : T α → β) : fT t k = k t := by cases t <;> rfl
theorem fAV_eq {β : Type} (x : AV) (k : AV → β) : fAV x k = k x := by
  cases x with
  | b x => exact fBool_eq x fun x => k (.b x)
  | i kd n => exact fInt_eq n fun n => k (.i kd n)
  | p b o => simp only [fAV, fNat_eq]
  | sl b o n c => simp only [fAV, fNat_eq]
  | _ => rfl
theorem fSt_eq {β : Type} (S : St) (k : St → β) : fSt S k = k S := by
  obtain ⟨h, n, d⟩ := S
  show fT h (fun h => fNat n fun n => k ⟨h, n, d⟩) = _
  rw [fT_eq, fNat_eq]
/-! operands -/
def opdC : Opd → Box (T AV → (AV → R) → R)
  | .t n => ⟨fun σ k => @Option.rec AV (fun _ => R) (k .undef) (fun v => k v) (σ.get n)⟩
  | .c v => ⟨fun _ k => k v⟩
  | .g n => ⟨fun _ k => k (.p n 0)⟩
  | .fn n => ⟨fun _ k => k (.f (.func n) [] [])⟩
theorem opdC_eq (x : Opd) (σ : T AV) (k : AV → R) : (opdC x).f σ k = k (opd x σ) := by
  cases x with
  | t n => show @Option.rec AV (fun _ => R) (k .undef) (fun v => k v) (σ.get n) = k (getU σ n); unfold getU; cases σ.get n <;> rfl
  | _ => rfl
def opdsC (l : List Opd) : Box (T AV → (List AV → R) → R) :=
  @List.rec Opd (fun _ => Box (T AV → (List AV → R) → R)) ⟨fun _ k => k []⟩ (fun x _ ih => un1 (opdC x) fun g => un1 ih fun h => ⟨fun σ k => g σ fun v => h σ fun vs => k (v :: vs)⟩) l
theorem opdsC_eq : ∀ (l : List Opd) (σ : T AV) (k : List AV → R), (opdsC l).f σ k = k (opds l σ)
  | [], _, _ => rfl
  | x :: l, σ, k => by
    show (opdC x).f σ (fun v => (opdsC l).f σ fun vs => k (v :: vs)) = _
    rw [opdC_eq, opdsC_eq l]; rfl
def opdOC : Option Opd → Box (T AV → (Option AV → R) → R)
  | none => ⟨fun _ k => k none⟩
  | some x => un1 (opdC x) fun g => ⟨fun σ k => g σ fun v => k (some v)⟩
theorem opdOC_eq (x : Option Opd) (σ : T AV) (k : Option AV → R) : (opdOC x).f σ k = k (opdO x σ) := by
  cases x with
  | none => rfl
  | some x => show (opdC x).f σ _ = _; rw [opdC_eq]; rfl
/-! operations: what follows takes the value and the state -/
abbrev KF := AV → St → R
def cvO (r : OR) (k : KF) : R := match r with
  | .v x S => k x S
  | .pan x S => .pan x S
  | .er s => .er s
  | _ => .er "op"
/-- the value is forced -/
def cvV (r : OR) (k : KF) : R := match r with
  | .v x S => fAV x fun x => k x S
  | .pan x S => .pan x S
  | .er s => .er s
  | _ => .er "op"
/-- the value and the state are forced -/
def cvS (r : OR) (k : KF) : R := match r with
  | .v x S => fAV x fun x => fSt S fun S => k x S
  | .pan x S => .pan x S
  | .er s => .er s
  | _ => .er "op"
theorem cvV_eq (r : OR) (k : KF) : cvV r k = cvO r k := by
  cases r with
  | v x S => exact fAV_eq x fun x => k x S
  | _ => rfl
theorem cvS_eq (r : OR) (k : KF) : cvS r k = cvO r k := by
  cases r <;> first | rfl | (simp only [cvS, cvO, fAV_eq, fSt_eq])
def int2 (x y : AV) (h : IntKind → Int → Int → R) (e d : R) : R := match x with
  | .i a n => (match y with
    | .i b m => @Bool.rec (fun _ => R) e (h a n m) (keq a b)
    | _ => e)
  | _ => d
/-- an operation on numbers of one kind -/
def bnC : BinOp → Box (St → KF → AV → AV → R)
  | .add => ⟨fun S k x y => int2 x y (fun a x y => fInt (fwrap a (Int.add x y)) fun n => k (.i a n) S) (.er "value") (cvV (.o (bin .add x y) S) k)⟩
  | .sub => ⟨fun S k x y => int2 x y (fun a x y => fInt (fwrap a (Int.sub x y)) fun n => k (.i a n) S) (.er "value") (cvV (.o (bin .sub x y) S) k)⟩
  | .lss => ⟨fun S k x y => int2 x y (fun a x y => fBool (ilt x y) fun t => k (.b t) S) (.er "value") (cvV (.o (bin .lss x y) S) k)⟩
  | .geq => ⟨fun S k x y => int2 x y (fun a x y => fBool (not (ilt x y)) fun t => k (.b t) S) (.er "value") (cvV (.o (bin .geq x y) S) k)⟩
  | .leq => ⟨fun S k x y => int2 x y (fun a x y => fBool (not (ilt y x)) fun t => k (.b t) S) (.er "value") (cvV (.o (bin .leq x y) S) k)⟩
  | .gtr => ⟨fun S k x y => int2 x y (fun a x y => fBool (ilt y x) fun t => k (.b t) S) (.er "value") (cvV (.o (bin .gtr x y) S) k)⟩
  | op => ⟨fun S k x y => cvV (.o (bin op x y) S) k⟩
theorem int2_eq {op : BinOp} {g : IntKind → Int → Int → AV} (hop : ∀ a n b m, bin op (.i a n) (.i b m) = @Bool.rec (fun _ => Option AV) none (some (g a n m)) (keq a b)) (hno : ∀ a n y, (∀ b m, y ≠ .i b m) → bin op (.i a n) y = none) (S : St) (k : KF) (x y : AV) :
    int2 x y (fun a x y => k (g a x y) S) (.er "value") (cvV (.o (bin op x y) S) k) = cvO (.o (bin op x y) S) k := by
  cases x with
  | i a n =>
    cases y with
    | i b m =>
      show @Bool.rec (fun _ => R) (.er "value") (k (g a n m) S) (keq a b) = _
      rw [hop]
      cases keq a b <;> rfl
    | _ => rw [hno a n _ (by intro b m h; cases h)]; rfl
  | b x => exact cvV_eq (.o (bin op (.b x) y) S) k
  | s x => exact cvV_eq (.o (bin op (.s x) y) S) k
  | p a o => exact cvV_eq (.o (bin op (.p a o) y) S) k
  | pn => exact cvV_eq (.o (bin op (.pn) y) S) k
  | sl a o n c => exact cvV_eq (.o (bin op (.sl a o n c) y) S) k
  | sn => exact cvV_eq (.o (bin op (.sn) y) S) k
  | m a => exact cvV_eq (.o (bin op (.m a) y) S) k
  | mn => exact cvV_eq (.o (bin op (.mn) y) S) k
  | f a b c => exact cvV_eq (.o (bin op (.f a b c) y) S) k
  | fn => exact cvV_eq (.o (bin op (.fn) y) S) k
  | ifc a b => exact cvV_eq (.o (bin op (.ifc a b) y) S) k
  | ifn => exact cvV_eq (.o (bin op (.ifn) y) S) k
  | ag a => exact cvV_eq (.o (bin op (.ag a) y) S) k
  | tu a => exact cvV_eq (.o (bin op (.tu a) y) S) k
theorem bnC_eq (op : BinOp) (S : St) (k : KF) (x y : AV) : (bnC op).f S k x y = cvO (.o (bin op x y) S) k := by
  have no : ∀ (op : BinOp) a n y, (∀ b m, y ≠ AV.i b m) → bin op (.i a n) y = none := fun op a n y h => by
    cases y <;> first | rfl | exact absurd rfl (h _ _)
  cases op <;> first | exact cvV_eq _ _ | skip
  case add =>
    simp only [bnC, fInt_eq]
    exact int2_eq (g := fun a x y => .i a (fwrap a (Int.add x y))) (fun a n b m => rfl) (no _) S k x y
  case sub =>
    simp only [bnC, fInt_eq]
    exact int2_eq (g := fun a x y => .i a (fwrap a (Int.sub x y))) (fun a n b m => rfl) (no _) S k x y
  case lss =>
    simp only [bnC, fBool_eq]
    exact int2_eq (g := fun a x y => .b (ilt x y)) (fun a n b m => rfl) (no _) S k x y
  case geq =>
    simp only [bnC, fBool_eq]
    exact int2_eq (g := fun a x y => .b (not (ilt x y))) (fun a n b m => rfl) (no _) S k x y
  case leq =>
    simp only [bnC, fBool_eq]
    exact int2_eq (g := fun a x y => .b (not (ilt y x))) (fun a n b m => rfl) (no _) S k x y
  case gtr =>
    simp only [bnC, fBool_eq]
    exact int2_eq (g := fun a x y => .b (ilt y x)) (fun a n b m => rfl) (no _) S k x y
def eqC1 : Nat → Box (Bool → St → KF → AV → AV → R)
  | 1 => ⟨fun neg S k x y => int2 x y (fun _ x y => fBool (ieq x y) fun t => @Bool.rec (fun _ => R) (k (.b t) S) (fBool (not t) fun t => k (.b t) S) neg) (.er "eq") (.er "eq")⟩
  | tag => ⟨fun neg S k x y => cvV (opEq neg S (eqT tag x y)) k⟩
theorem eqC1_eq (tag : Nat) (neg : Bool) (S : St) (k : KF) (x y : AV) : (eqC1 tag).f neg S k x y = cvO (opEq neg S (eqT tag x y)) k := by
  unfold eqC1
  split
  · cases x with
    | i a n =>
      cases y with
      | i b m =>
        show @Bool.rec (fun _ => R) (.er "eq") (fBool (ieq n m) fun t => @Bool.rec (fun _ => R) (k (.b t) S) (fBool (not t) fun t => k (.b t) S) neg) (keq a b) = cvO (opEq neg S (@Bool.rec (fun _ => Option Bool) none (some (ieq n m)) (keq a b))) k
        rw [fBool_eq, fBool_eq]
        cases keq a b <;> cases neg <;> rfl
      | _ => rfl
    | _ => rfl
  · exact cvV_eq _ _
/-- cells of a row are stored -/
def stK (S : St) (b off : Nat) (l : List AV) (k : St → R) (er : R) : R :=
  @Option.rec Blk (fun _ => R) er (fun x => match x with
    | .row kd c m => @Bool.rec (fun _ => R) er (fT (setCells l c off) fun c => fT (S.heap.set b (.row kd c m)) fun h => k ⟨h, S.nxt, S.drw⟩) (and (Nat.ble (Nat.add off l.length) m) (and (not (Nat.beq kd 2)) (ones l)))
    | _ => er) (S.heap.get b)
theorem stK_eq (S : St) (b off : Nat) (l : List AV) (k : St → R) (er : R) : stK S b off l k er = (match stCells S b off l with | some S => k S | none => er) := by
  unfold stK stCells
  cases S.heap.get b with
  | none => rfl
  | some x =>
    cases x with
    | row kd c m =>
      show @Bool.rec (fun _ => R) er _ _ = (match (match @Bool.rec (fun _ => Option Blk) none (some (.row kd (setCells l c off) m)) (and (Nat.ble (Nat.add off l.length) m) (and (not (Nat.beq kd 2)) (ones l))) with | some y => some (S.setBlk b y) | none => none) with | some S => k S | none => er)
      cases and (Nat.ble (Nat.add off l.length) m) (and (not (Nat.beq kd 2)) (ones l)) with
      | false => rfl
      | true => show fT _ _ = _; rw [fT_eq, fT_eq]; rfl
    | _ => rfl
/-- a new row -/
def nwK (S : St) (kind : Nat) (l : List AV) (k : St → R) : R := fT (T.ofList l) fun c => fNat l.length fun n => fT (S.heap.set S.nxt (.row kind c n)) fun h => fNat (Nat.succ S.nxt) fun m => k ⟨h, m, S.drw⟩
theorem nwK_eq (S : St) (kind : Nat) (l : List AV) (k : St → R) : nwK S kind l k = k (S.newRow kind l) := by
  unfold nwK; rw [fT_eq, fNat_eq, fT_eq, fNat_eq]; rfl
def aopC : AOp → Box (T AV → St → KF → R)
  | .mv x => un1 (opdC x) fun g => ⟨fun σ S k => g σ fun v => k v S⟩
  | .pk c a b => un1 (opdC c) fun gc => un1 (opdC a) fun ga => un1 (opdC b) fun gb => ⟨fun σ S k => gc σ fun c => match c with | .b t => @Bool.rec (fun _ => R) (gb σ fun v => k v S) (ga σ fun v => k v S) t | _ => .er "pick"⟩
  | .al z => ⟨fun _ S k => nwK S 0 z fun S' => k (.p S.nxt 0) S'⟩
  | .bx x => un1 (opdC x) fun g => ⟨fun σ S k => g σ fun v => nwK S 0 v.cells fun S' => k (.p S.nxt 0) S'⟩
  | .ld1 a => un1 (opdC a) fun g => ⟨fun σ S k => g σ fun v => match v with | .p b o => @Option.rec AV (fun _ => R) (.er "value") (fun v => k v S) (ldCell S b o) | _ => .er "load"⟩
  | .ldn n a => un1 (opdC a) fun g => ⟨fun σ S k => g σ fun v => cvO (opLdn n S v) k⟩
  | .st n a x => un1 (opdC a) fun ga => un1 (opdC x) fun gx => ⟨fun σ S k => gx σ fun x => ga σ fun a => match a with
      | .p b o => @Bool.rec (fun _ => R) (.er "store size") (stK S b o x.cells (fun S => k .undef S) (.er "store")) (Nat.beq x.cells.length n)
      | _ => .er "store addr"⟩
  | .nc x => un1 (opdC x) fun g => ⟨fun σ S k => g σ fun v => cvO (opNc S v) k⟩
  | .bn op x y => un1 (opdC x) fun gx => un1 (opdC y) fun gy => un1 (bnC op) fun h => ⟨fun σ S k => gx σ fun x => gy σ fun y => h S k x y⟩
  | .eq neg tag x y => un1 (opdC x) fun gx => un1 (opdC y) fun gy => un1 (eqC1 tag) fun h => ⟨fun σ S k => gx σ fun x => gy σ fun y => h neg S k x y⟩
  | .un op x => un1 (opdC x) fun g => ⟨fun σ S k => g σ fun v => cvV (.o (un op v) S) k⟩
  | .cvi kd x => un1 (opdC x) fun g => ⟨fun σ S k => g σ fun v => cvV (opCvi kd S v) k⟩
  | .fa off x => un1 (opdC x) fun g => ⟨fun σ S k => g σ fun v => match v with | .p b o => fNat (Nat.add o off) fun o => k (.p b o) S | _ => .er "fieldAddr"⟩
  | .iaA n esz x ix => un1 (opdC x) fun gx => un1 (opdC ix) fun gi => ⟨fun σ S k => gx σ fun x => gi σ fun i => cvV (opIaA n esz S i x) k⟩
  | .iaS esz x ix => un1 (opdC x) fun gx => un1 (opdC ix) fun gi => ⟨fun σ S k => gx σ fun x => gi σ fun i => cvV (opIaS esz S i x) k⟩
  | .ex x i => un1 (opdC x) fun g => ⟨fun σ S k => g σ fun v => match v with | .tu l => @Option.rec AV (fun _ => R) (.er "value") (fun v => k v S) l[i]? | _ => .er "extract"⟩
  | .bi b args => un1 (opdsC args) fun g => ⟨fun σ S k => g σ fun vs => cvS (biOp b S vs) k⟩
  | .mf fn a c => un1 (opdsC a) fun ga => un1 (opdsC c) fun gc => ⟨fun σ S k => ga σ fun a => gc σ fun c => k (.f fn a c) S⟩
  | .sl esz x lo hi mx => un1 (opdC x) fun gx => un1 (opdOC lo) fun gl => un1 (opdOC hi) fun gh => un1 (opdOC mx) fun gm => ⟨fun σ S k => gx σ fun x => gl σ fun lo => gh σ fun hi => gm σ fun mx => cvV (opSl esz S lo hi mx x) k⟩
  | .mi t x => un1 (opdC x) fun g => ⟨fun σ S k => g σ fun v => k (.ifc t v) S⟩
  | op => ⟨fun σ S k => cvS (aop op none σ S) k⟩
theorem aopC_eq (op : AOp) (σ : T AV) (S : St) (k : KF) : (aopC op).f σ S k = cvO (aop op none σ S) k := by
  cases op
  case mv x => exact opdC_eq x σ _
  case pk c a b =>
    show (opdC c).f σ (fun c => match c with | .b t => @Bool.rec (fun _ => R) ((opdC b).f σ fun v => k v S) ((opdC a).f σ fun v => k v S) t | _ => .er "pick") = cvO (opPk S (opd a σ) (opd b σ) (opd c σ)) k
    rw [opdC_eq, opdC_eq, opdC_eq]
    cases opd c σ with
    | b t => cases t <;> rfl
    | _ => rfl
  case al z => exact nwK_eq S 0 z _
  case bx x =>
    show (opdC x).f σ (fun v => nwK S 0 v.cells fun S' => k (.p S.nxt 0) S') = _
    rw [opdC_eq, nwK_eq]; rfl
  case ld1 a =>
    show (opdC a).f σ (fun v => match v with | .p b o => @Option.rec AV (fun _ => R) (.er "value") (fun v => k v S) (ldCell S b o) | _ => .er "load") = cvO (opLd1 S (opd a σ)) k
    rw [opdC_eq]
    cases opd a σ with
    | p b o => simp only [opLd1]; cases ldCell S b o <;> rfl
    | _ => rfl
  case ldn n a => exact opdC_eq a σ _
  case st n a x =>
    show (opdC x).f σ (fun x => (opdC a).f σ fun a => match a with
      | .p b o => @Bool.rec (fun _ => R) (.er "store size") (stK S b o x.cells (fun S => k .undef S) (.er "store")) (Nat.beq x.cells.length n)
      | _ => .er "store addr") = cvO (opSt n S (opd x σ) (opd a σ)) k
    rw [opdC_eq, opdC_eq]
    cases opd a σ with
    | p b o =>
      simp only [opSt, stK_eq]
      cases Nat.beq (opd x σ).cells.length n with
      | false => rfl
      | true => simp only []; cases stCells S b o (opd x σ).cells <;> rfl
    | _ => rfl
  case nc x => exact opdC_eq x σ _
  case bn op x y =>
    show (opdC x).f σ (fun x => (opdC y).f σ fun y => (bnC op).f S k x y) = _
    rw [opdC_eq, opdC_eq, bnC_eq]; rfl
  case eq neg tag x y =>
    show (opdC x).f σ (fun x => (opdC y).f σ fun y => (eqC1 tag).f neg S k x y) = _
    rw [opdC_eq, opdC_eq, eqC1_eq]; rfl
  case un op x => exact (opdC_eq x σ _).trans (cvV_eq _ _)
  case cvi kd x => exact (opdC_eq x σ _).trans (cvV_eq _ _)
  case fa off x =>
    show (opdC x).f σ (fun v => match v with | .p b o => fNat (Nat.add o off) fun o => k (.p b o) S | _ => .er "fieldAddr") = cvO (opFa off S (opd x σ)) k
    rw [opdC_eq]
    cases opd x σ with
    | p b o => exact fNat_eq _ _
    | _ => rfl
  case iaA n esz x ix => exact (opdC_eq x σ _).trans ((opdC_eq ix σ _).trans (cvV_eq _ _))
  case iaS esz x ix => exact (opdC_eq x σ _).trans ((opdC_eq ix σ _).trans (cvV_eq _ _))
  case ex x i =>
    show (opdC x).f σ (fun v => match v with | .tu l => @Option.rec AV (fun _ => R) (.er "value") (fun v => k v S) l[i]? | _ => .er "extract") = cvO (opEx i S (opd x σ)) k
    rw [opdC_eq]
    cases opd x σ with
    | tu l => simp only [opEx]; cases l[i]? <;> rfl
    | _ => rfl
  case bi b args => exact (opdsC_eq args σ _).trans (cvS_eq _ _)
  case mf fn a c => exact (opdsC_eq a σ _).trans (opdsC_eq c σ _)
  case sl esz x lo hi mx =>
    exact (opdC_eq x σ _).trans ((opdOC_eq lo σ _).trans ((opdOC_eq hi σ _).trans ((opdOC_eq mx σ _).trans (cvV_eq _ _))))
  case mi t x => exact opdC_eq x σ _
  all_goals exact Eq.trans (b := cvS (aop _ none σ S) k) rfl (cvS_eq _ _)
/-! what operations are within code -/
def cvR (r : R) (k : KF) : R := match r with
  | .v x S => k x S
  | .c .. => .er "code result"
  | .pan x S => .pan x S
  | .er s => .er s
def callC (ev : Ev) (S : St) (k : KF) (as : List AV) : AV → R
  | .f fn first caps => (match fn with
    | .func n => cvR (ev (.call n (first ++ (as ++ caps))) S) k
    | .yield l => cvR (ev (.round l (first ++ as)) S) k
    | _ => .er "call")
  | _ => .er "call"
def runC : AOp → Box (Ev → T AV → St → KF → R)
  | .df _ _ => ⟨fun _ _ _ _ => .er "defer"⟩
  | .call f args => un1 (opdC f) fun gf => un1 (opdsC args) fun ga => ⟨fun ev σ S k => gf σ fun f => ga σ fun as => callC ev S k as f⟩
  | op => un1 (aopC op) fun h => ⟨fun _ σ S k => h σ S k⟩
theorem contV_cv (r : OR) (d : Option Nat) (σ : T AV) (k : T AV → St → R) : contV r d σ k = cvO r fun x S => k (putDst d x σ) S := by cases r <;> rfl
theorem contR_cv (r : R) (d : Option Nat) (σ : T AV) (k : T AV → St → R) : contR r d σ k = cvR r fun x S => k (putDst d x σ) S := by cases r <;> rfl
theorem runC_other {op : AOp} {ev : Ev} {d : Option Nat} {σ : T AV} {S : St} {k : T AV → St → R} (h : runC op = un1 (aopC op) fun h => ⟨fun _ σ S k => h σ S k⟩) (h2 : runOp ev d σ S k op = contV (aop op none σ S) d σ k) : (runC op).f ev σ S (fun x S => k (putDst d x σ) S) = runOp ev d σ S k op := by
  rw [h, h2, contV_cv, ← aopC_eq]; rfl
theorem runC_eq (op : AOp) (ev : Ev) (d : Option Nat) (σ : T AV) (S : St) (k : T AV → St → R) : (runC op).f ev σ S (fun x S => k (putDst d x σ) S) = runOp ev d σ S k op := by
  cases op
  case df => rfl
  case call f args =>
    show (opdC f).f σ (fun f => (opdsC args).f σ fun as => callC ev S _ as f) = contO (opCall S (opds args σ) (opd f σ)) ev d σ k
    rw [opdC_eq, opdsC_eq]
    cases opd f σ with
    | f fn first caps =>
      cases fn with
      | func n => exact (contR_cv _ d σ k).symm
      | yield l => exact (contR_cv _ d σ k).symm
      | _ => rfl
    | _ => rfl
  all_goals exact runC_other rfl rfl
def putC : Option Nat → Box (T AV → AV → (T AV → R) → R)
  | some d => ⟨fun σ x k => fT (σ.set d x) k⟩
  | none => ⟨fun σ _ k => k σ⟩
theorem putC_eq (d : Option Nat) (σ : T AV) (x : AV) (k : T AV → R) : (putC d).f σ x k = k (putDst d x σ) := by
  cases d with
  | none => rfl
  | some d => exact fT_eq _ _
def wantC : Option (Nat × Bool) → Box (T AV → R → R → R)
  | none => ⟨fun _ a _ => a⟩
  | some (d, w) => ⟨fun σ a b => @Bool.rec (fun _ => R) b a (wantedD d w σ)⟩
theorem wantC_eq (g : Option (Nat × Bool)) (σ : T AV) (a b : R) : (wantC g).f σ a b = @Bool.rec (fun _ => R) b a (wanted g σ) := by
  cases g <;> rfl
abbrev CF := T AV → St → R
def opC (o : AO) : Box (Ev → T AV → St → CF → R) :=
  un1 (runC o.op) fun h => un1 (putC o.dst) fun p => un1 (wantC o.guard) fun w => ⟨fun ev σ S k => w σ (h ev σ S fun x S => p σ x fun σ => k σ S) (p σ .undef fun σ => k σ S)⟩
theorem opC_eq (o : AO) (ev : Ev) (σ : T AV) (S : St) (k : CF) : (opC o).f ev σ S k = opK ev σ S k o := by
  show (wantC o.guard).f σ ((runC o.op).f ev σ S fun x S => (putC o.dst).f σ x fun σ => k σ S) ((putC o.dst).f σ .undef fun σ => k σ S) = _
  rw [wantC_eq, putC_eq]
  have : (fun x S => (putC o.dst).f σ x fun σ => k σ S) = fun x S => k (putDst o.dst x σ) S := by
    funext x S; exact putC_eq o.dst σ x _
  rw [this, runC_eq]; rfl
def opsC (l : List AO) : Box (Ev → T AV → St → R) :=
  @List.rec AO (fun _ => Box (Ev → T AV → St → R)) ⟨fun _ σ S => .c .nrm σ S⟩ (fun o _ ih => un1 (opC o) fun h => un1 ih fun r => ⟨fun ev σ S => h ev σ S (r ev)⟩) l
theorem opsC_eq : ∀ (l : List AO) (ev : Ev) (σ : T AV) (S : St), (opsC l).f ev σ S = opsK l ev σ S
  | [], _, _, _ => rfl
  | o :: l, ev, σ, S => by
    show (opC o).f ev σ S ((opsC l).f ev) = opK ev σ S (opsK l ev) o
    rw [opC_eq]
    congr 1
    funext σ S; exact opsC_eq l ev σ S
/-! regions whose order is open -/
def dsC : DS → Box (Nat → T AV → St → CF → R)
  | .op o => un1 (aopC o.op) fun h => un1 (putC o.dst) fun p => un1 (wantC o.guard) fun w => ⟨fun _ σ S k => w σ (h σ S fun x S => p σ x fun σ => k σ S) (p σ .undef fun σ => k σ S)⟩
  | .ck o => un1 (aopC o.op) fun h => un1 (wantC o.guard) fun w => (match o.dst with
      | some d => ⟨fun _ σ S k => w σ (h σ S fun x S => @Bool.rec (fun _ => R) (.er "an order matters") (k σ S) (eqA x (getU σ d))) (k σ S)⟩
      | none => ⟨fun _ σ S k => w σ (h σ S fun _ S => k σ S) (k σ S)⟩)
  | .al i o => un1 (wantC o.guard) fun w => ⟨fun base σ S k => w σ (alK (Nat.add base i) o.dst σ S (fun σ S => fT σ fun σ => fSt S fun S => k σ S) (nOp (Nat.add base i) σ o.op)) (k (putDst o.dst .undef σ) S)⟩
theorem dsC_eq (d : DS) (base : Nat) (σ : T AV) (S : St) (k : CF) : (dsC d).f base σ S k = dsK base σ S k d := by
  cases d with
  | op o =>
    show (wantC o.guard).f σ ((aopC o.op).f σ S fun x S => (putC o.dst).f σ x fun σ => k σ S) ((putC o.dst).f σ .undef fun σ => k σ S) = _
    rw [wantC_eq, putC_eq, aopC_eq]
    have : (fun x S => (putC o.dst).f σ x fun σ => k σ S) = fun x S => k (putDst o.dst x σ) S := by
      funext x S; exact putC_eq o.dst σ x _
    rw [this]
    show @Bool.rec (fun _ => R) _ (cvO (aop o.op none σ S) fun x S => k (putDst o.dst x σ) S) _ = _
    rw [← contV_cv]; rfl
  | ck o =>
    obtain ⟨dst, op, gd⟩ := o
    have key : ∀ r : OR, ckK dst σ S k r = cvO r (match dst with | some d => fun x S => @Bool.rec (fun _ => R) (.er "an order matters") (k σ S) (eqA x (getU σ d)) | none => fun _ S => k σ S) := fun r => by
      cases r <;> cases dst <;> rfl
    show _ = @Bool.rec (fun _ => R) (k σ S) (ckK dst σ S k (aop op none σ S)) (wanted gd σ)
    rw [key]
    cases dst with
    | none =>
      show (wantC gd).f σ ((aopC op).f σ S fun _ S => k σ S) (k σ S) = _
      rw [wantC_eq, aopC_eq]
    | some d =>
      show (wantC gd).f σ ((aopC op).f σ S fun x S => @Bool.rec (fun _ => R) (.er "an order matters") (k σ S) (eqA x (getU σ d))) (k σ S) = _
      rw [wantC_eq, aopC_eq]
  | al i o =>
    have : (fun σ S => fT σ fun σ => fSt S fun S => k σ S) = k := by funext σ S; rw [fT_eq, fSt_eq]
    show (wantC o.guard).f σ (alK (Nat.add base i) o.dst σ S (fun σ S => fT σ fun σ => fSt S fun S => k σ S) (nOp (Nat.add base i) σ o.op)) (k (putDst o.dst .undef σ) S) = _
    rw [wantC_eq, this]; rfl
def dssC (l : List DS) : Box (Nat → CF → T AV → St → R) :=
  @List.rec DS (fun _ => Box (Nat → CF → T AV → St → R)) ⟨fun _ k => k⟩ (fun d _ ih => un1 (dsC d) fun h => un1 ih fun r => ⟨fun base k σ S => h base σ S (r base k)⟩) l
theorem dssC_eq : ∀ (l : List DS) (base : Nat) (k : CF) (σ : T AV) (S : St), (dssC l).f base k σ S = dssK base l k σ S
  | [], _, _, _, _ => rfl
  | d :: l, base, k, σ, S => by
    show (dsC d).f base σ S ((dssC l).f base k) = dsK base σ S (dssK base l k) d
    rw [dsC_eq]
    congr 1
    funext σ S; exact dssC_eq l base k σ S
def stgC : Option AO → Box (Ev → T AV → St → CF → R)
  | some o => opC o
  | none => ⟨fun _ σ S k => k σ S⟩
theorem stgC_eq (w : Option AO) (ev : Ev) (σ : T AV) (S : St) (k : CF) : (stgC w).f ev σ S k = stgW ev w σ S k := by
  cases w with
  | none => rfl
  | some o => exact opC_eq o ev σ S k
def drwC (l : List Stg) : Box (Ev → Nat → T AV → St → R) :=
  @List.rec Stg (fun _ => Box (Ev → Nat → T AV → St → R)) ⟨fun _ _ σ S => .c .nrm σ S⟩
    (fun s _ ih => un1 (dssC s.pr) fun a => un1 (dssC s.ns) fun b => un1 (stgC s.w) fun c => un1 ih fun r => ⟨fun ev base σ S => a base (b base fun σ S => c ev σ S (r ev base)) σ S⟩) l
theorem drwC_eq : ∀ (l : List Stg) (ev : Ev) (base : Nat) (σ : T AV) (S : St), (drwC l).f ev base σ S = drwK ev base l σ S
  | [], _, _, _, _ => rfl
  | s :: l, ev, base, σ, S => by
    show (dssC s.pr).f base ((dssC s.ns).f base fun σ S => (stgC s.w).f ev σ S ((drwC l).f ev base)) σ S = dssK base s.pr (dssK base s.ns fun σ S => stgW ev s.w σ S (drwK ev base l)) σ S
    rw [dssC_eq]
    congr 1
    funext σ S
    rw [dssC_eq]
    congr 1
    funext σ S
    rw [stgC_eq]
    congr 1
    funext σ S; exact drwC_eq l ev base σ S
/-! code -/
def stepB : AC → Box (Ev → T AV → St → R)
  | .reg ops => opsC ops
  | .drw k sts => un1 (drwC sts) fun h => ⟨fun ev σ S => fNat S.nxt fun n => fNat (Nat.add n k) fun m => h ev n σ ⟨S.heap, m, S.drw⟩⟩
  | .seq a b => ⟨fun ev σ S => seqK ev b (ev (.code a σ) S)⟩
  | .cnd c a b => un1 (opdC c) fun g => ⟨fun ev σ S => g σ fun v => match v with | .b x => @Bool.rec (fun _ => R) (ev (.code b σ) S) (ev (.code a σ) S) x | _ => .er "cond"⟩
  | .blk id b => ⟨fun ev σ S => blkK id (ev (.code b σ) S)⟩
  | .loop b => ⟨fun ev σ S => seqK ev (.loop b) (ev (.code b σ) S)⟩
  | c => ⟨fun ev σ S => stepC c ev σ S⟩
theorem stepB_eq (c : AC) (ev : Ev) (σ : T AV) (S : St) : (stepB c).f ev σ S = stepC c ev σ S := by
  cases c with
  | reg ops => exact opsC_eq ops ev σ S
  | drw k sts =>
    show fNat S.nxt (fun n => fNat (Nat.add n k) fun m => (drwC sts).f ev n σ ⟨S.heap, m, S.drw⟩) = _
    rw [fNat_eq, fNat_eq, drwC_eq]; rfl
  | cnd c a b =>
    show (opdC c).f σ (fun v => match v with | .b x => @Bool.rec (fun _ => R) (ev (.code b σ) S) (ev (.code a σ) S) x | _ => .er "cond") = cndK ev a b σ S (opd c σ)
    rw [opdC_eq]
    cases opd c σ with
    | b x => cases x <;> rfl
    | _ => rfl
  | _ => rfl
def resC : List RVar → Box (St → T AV → (List AV → R) → R)
  | [] => ⟨fun _ _ k => k []⟩
  | r :: rs => un1 (resC rs) fun h => (match r with
    | .t n => ⟨fun S σ k => @Option.rec AV (fun _ => R) (h S σ fun vs => k (.undef :: vs)) (fun v => h S σ fun vs => k (v :: vs)) (σ.get n)⟩
    | r => ⟨fun S σ k => @Option.rec AV (fun _ => R) (.er "results") (fun v => h S σ fun vs => k (v :: vs)) (resultOf S σ r)⟩)
theorem resC_eq : ∀ (rs : List RVar) (S : St) (σ : T AV) (k : List AV → R), (resC rs).f S σ k = (match resultsOf S σ rs with | some l => k l | none => .er "results")
  | [], _, _, _ => rfl
  | r :: rs, S, σ, k => by
    have ih := resC_eq rs S σ
    cases r with
    | t n =>
      show @Option.rec AV (fun _ => R) ((resC rs).f S σ fun vs => k (.undef :: vs)) (fun v => (resC rs).f S σ fun vs => k (v :: vs)) (σ.get n) = _
      simp only [ih, resultsOf, resultOf, getU]
      cases σ.get n <;> cases resultsOf S σ rs <;> rfl
    | c1 a =>
      show @Option.rec AV (fun _ => R) (.er "results") (fun v => (resC rs).f S σ fun vs => k (v :: vs)) (resultOf S σ (.c1 a)) = _
      simp only [ih, resultsOf]
      cases resultOf S σ (.c1 a) <;> cases resultsOf S σ rs <;> rfl
    | cn n a =>
      show @Option.rec AV (fun _ => R) (.er "results") (fun v => (resC rs).f S σ fun vs => k (v :: vs)) (resultOf S σ (.cn n a)) = _
      simp only [ih, resultsOf]
      cases resultOf S σ (.cn n a) <;> cases resultsOf S σ rs <;> rfl
def unwC (σ : T AV) (S : St) : Option AF → R
  | some fn => un1 (resC fn.results) fun h => h S σ fun l => match l with | [v] => .v v S | vs => .v (.tu vs) S
  | none => .er "no function"
theorem unwC_eq (σ : T AV) (S : St) (f : Option AF) : unwC σ S f = unwF σ S f := by
  cases f with
  | none => rfl
  | some fn =>
    show (resC fn.results).f S σ _ = packR S (resultsOf S σ fn.results)
    rw [resC_eq]
    cases resultsOf S σ fn.results with
    | none => rfl
    | some l => cases l with
      | nil => rfl
      | cons v l => cases l <;> rfl
def callKC (ev : Ev) (f : Nat) (args : List AV) (S : St) : Option AF → R
  | some fn => @Bool.rec (fun _ => R) (.er "too many arguments") (fT (T.ofList args) fun σ => bodyK ev f (ev (.code fn.body σ) S)) (Nat.ble args.length 1000)
  | none => .er "no function"
theorem callKC_eq (ev : Ev) (f : Nat) (args : List AV) (S : St) (o : Option AF) : callKC ev f args S o = callK ev f args S o := by
  cases o with
  | none => rfl
  | some fn => simp only [callKC, callK, fT_eq]
def stepT (U : Sums) (F : Nat → Option AF) : Task → Ev → St → R
  | .code c σ => fun ev S => un1 (stepB c) fun h => h ev σ S
  | .call f args => fun ev S => (match U f with
    | some g => (match g args S with
      | some r => fSt r.2 fun S => .v r.1 S
      | none => callKC ev f args S (F f))
    | none => callKC ev f args S (F f))
  | .unwind f σ => fun ev S => (match getDefers σ with
    | d :: ds => unwD ev f σ S ds d
    | [] => unwC σ S (F f))
  | .round l args => fun ev S => roundK ev l args S (S.heap.get l)
theorem stepT_eq (U : Sums) (F : Nat → Option AF) (t : Task) (ev : Ev) (S : St) : stepT U F t ev S = step U F t ev S := by
  cases t with
  | code c σ => exact stepB_eq c ev σ S
  | call f args =>
    show (match U f with | some g => _ | none => _) = callS F ev f args S (U f)
    cases U f with
    | none => exact callKC_eq ev f args S (F f)
    | some g =>
      show (match g args S with | some r => _ | none => _) = callR F ev f args S (g args S)
      cases g args S with
      | none => exact callKC_eq ev f args S (F f)
      | some r => exact fSt_eq r.2 _
  | unwind f σ =>
    show (match getDefers σ with | d :: ds => unwD ev f σ S ds d | [] => unwC σ S (F f)) = unwindK F ev f σ S (getDefers σ)
    cases getDefers σ with
    | nil => exact unwC_eq σ S (F f)
    | cons d ds => rfl
  | round l args => rfl
/-- the same evaluator -/
def evT (U : Sums) (F : Nat → Option AF) (n : Nat) : Ev :=
  @Nat.rec (fun _ => Ev) (fun _ _ => .er "fuel") (fun _ ih t S => stepT U F t ih S) n
theorem evT_eq (U : Sums) (F : Nat → Option AF) : ∀ n, evT U F n = ev U F n
  | 0 => rfl
  | n + 1 => by
    funext t S
    show stepT U F t (evT U F n) S = step U F t (ev U F n) S
    rw [stepT_eq, evT_eq U F n]
end
end Go.Ev
