/- A reckoner: it plays the code over a memory that is known as far as it matters. The definitions.  The reckoner: its trees. -/
import Derived.Test.YtphfekkllibphaaGreatDoorEvX
namespace Go.Proofs.YtphfekkllibphaaGreatDoor.Ev
open Go

/-- A tree of things by their numbers, from 1 on. -/
inductive T (α : Type) where
  | e
  | n (l : T α) (v : α) (r : T α)
noncomputable def T.get {α : Type} (d : α) (t : T α) : Nat → α :=
  T.rec (motive := fun _ => Nat → α) (fun _ => d) (fun _ v _ gl gr k =>
    Bool.rec (Bool.rec (gr (Nat.div k 2)) (gl (Nat.div k 2)) (Nat.beq (Nat.mod k 2) 1)) v (Nat.ble k 1)) t
noncomputable def T.setK {α β : Type} (t : T α) : Nat → α → (T α → β) → β :=
  T.rec (motive := fun _ => Nat → α → (T α → β) → β) (fun _ _ c => c .e) (fun l v r sl sr k x c =>
    Bool.rec (Bool.rec (sr (Nat.div k 2) x (fun r' => c (.n l v r'))) (sl (Nat.div k 2) x (fun l' => c (.n l' v r))) (Nat.beq (Nat.mod k 2) 1)) (c (.n l x r)) (Nat.ble k 1)) t
noncomputable def full {α : Type} (d : α) : Nat → T α := Nat.rec .e (fun _ t => .n t d t)
/-- The elements of a list laid from k on, then c. -/
noncomputable def T.layK {α β : Type} (l : List α) : T α → Nat → (T α → β) → β :=
  List.rec (motive := fun _ => T α → Nat → (T α → β) → β) (fun t _ c => c t) (fun v _ ih t k c => t.setK k v (fun t => ih t (Nat.succ k) c)) l
/-- Depth for n things. -/
noncomputable def depth (n : Nat) : Nat := Nat.succ (Nat.log2 (Nat.succ n))
/-- What is known of a block. -/
inductive O where
  | z
  | c (n : Nat) (t : T V) (e : TypeId) (g : Option Nat)
  | mp (es : List (V × V × Nat)) (clock : Nat)
  | it (m : Option Nat) (since : Nat) (seen : List Nat) (last : Nat)
structure H where
  t : T O
  nx : Nat
  lg : List Nat
  df : List (List V)
abbrev Fr := T V
abbrev KT := V → H → Bool
/-- Elements m of t from k on, m of them, as a list. -/
noncomputable def T.takeK {β : Type} (t : T V) : Nat → Nat → (List V → β) → β :=
  Nat.rec (motive := fun _ => Nat → (List V → β) → β) (fun _ c => c []) (fun _ ih k c => ih (Nat.succ k) (fun l => c (t.get .u k :: l)))

/-- Types. -/
inductive UD where
  | oth | bool | int (k : IntKind) | str | ptr (e : TypeId) | sl (e : TypeId) | arr (n : Nat) (e : TypeId) | map (k e : TypeId) | func | ifc | struct (fs : List (Nat × TypeId))
structure TI where
  agg : Bool
  seq : Bool
  one : Bool
  size : Nat
  bytes : Nat
  zv : V
  zero : List V
  und : UD
def natI (n : Nat) : Int := Int.ofNat n
def bytesV (b : ByteArray) : List V := b.data.toList.map fun c => .i .u8 (Int.ofNat c.toNat)
/-- A constant's value (no struct). -/
noncomputable def ofVal1 (v : Value) : V :=
  match v with
  | .bool b => .b b
  | .int k n => .i k n
  | .string s => .s (bytesV s)
  | .pointer none => .pn
  | .slice none 0 0 => .sn
  | .map none => .mn
  | .nilFunc => .nf
  | .nilIface => .nic
  | _ => .u
noncomputable def ofVal (v : Value) : V :=
  match v with
  | .agg cs => .agg (cs.toList.map ofVal1)
  | .iface t v => .ic t (ofVal1 v)
  | .func fn first cap => (match first.toList, cap.toList with | [], [] => .f fn [] [] | _, _ => .u)
  | v => ofVal1 v
noncomputable def cellsV (v : Value) : List V := match v with | .agg cs => cs.toList.map ofVal1 | v => [ofVal1 v]
def udOf : TypeDesc → UD
  | .bool => .bool
  | .int k => .int k
  | .string => .str
  | .pointer e => .ptr e
  | .slice e => .sl e
  | .array n e => .arr n e
  | .map k e => .map k e
  | .func _ _ _ => .func
  | .interface _ => .ifc
  | .struct fs => .struct (fs.toList.map fun f => (f.offset, f.type))
  | _ => .oth
def UD.isAgg : UD → Bool
  | .arr _ _ => true
  | .struct _ => true
  | _ => false
def UD.isOne : UD → Bool
  | .arr _ _ => false
  | .struct _ => false
  | .oth => false
  | _ => true
def UD.simple : UD → Bool
  | .int _ => true
  | .bool => true
  | .str => true
  | _ => false
def descOf (P : Program) (i : TypeInfo) : TypeDesc := match i.desc with | .named _ t => ((P.types[t]?).map (·.desc)).getD .invalid | d => d
def udAt (P : Program) (t : TypeId) : UD := match P.types[t]? with | some i => udOf (descOf P i) | none => .oth
/-- A struct of plain things, one cell each. -/
def seqOf (P : Program) (t : TypeId) (d : TypeDesc) : Bool :=
  match d with
  | .struct fs => (fs.toList.zipIdx.all fun f => Nat.beq f.1.offset f.2 && f.1.name != "_" && (udAt P f.1.type).simple) && !P.stoodInHeld t && !P.eqGuardType P.depth t
  | _ => false
noncomputable def tiOf (P : Program) (t : TypeId) (i : TypeInfo) : TI :=
  let u := udOf (descOf P i)
  ⟨u.isAgg, seqOf P t (descOf P i), Nat.beq i.size 1 && u.isOne, i.size, i.bytes, (match i.zero with | some v => ofVal v | none => .u), (match i.zero with | some v => cellsV v | none => []), u⟩
def TI.none : TI := ⟨false, false, false, 0, 0, .u, [], .oth⟩
noncomputable def ttab (P : Program) : T TI := T.layK (P.types.toList.zipIdx.map fun q => tiOf P q.2 q.1) (full .none (depth P.types.size)) 1 (fun t => t)
noncomputable def ti (P : Program) (t : TypeId) : TI := (ttab P).get .none (Nat.succ t)
noncomputable def ftab (P : Program) : T (Option Func) := T.layK (P.funcs.toList.map some) (full none (depth P.funcs.size)) 1 (fun t => t)

-- looking a value's make up
noncomputable def onI (v : V) (K : IntKind → Int → Bool) : Bool := match v with | .i k n => K k n | _ => false
noncomputable def onB (v : V) (K : Bool → Bool) : Bool := match v with | .b x => K x | _ => false
noncomputable def onP (v : V) (K : Nat → Nat → Bool) : Bool := match v with | .p b o => K b o | _ => false
noncomputable def onAgg (v : V) (K : List V → Bool) : Bool := match v with | .agg l => K l | _ => false
/-- A natural index. -/
noncomputable def onNat (v : V) (K : Nat → Bool) : Bool := match v with | .i _ (.ofNat n) => K n | _ => false
noncomputable def forceN {β : Type} (n : Nat) (K : Nat → β) : β := Nat.rec (K 0) (fun _ _ => K n) n
noncomputable def forceI {β : Type} (n : Int) (K : Int → β) : β := Int.rec (fun m => forceN m (fun m => K (.ofNat m))) (fun m => forceN m (fun m => K (.negSucc m))) n
noncomputable def opd (x : Operand) : Fr → V := Operand.rec (fun k fr => fr.get .u (Nat.succ k)) (fun v _ => ofVal v) (fun _ _ => .u) (fun f _ => .f (.func f) [] []) x

-- memory
noncomputable def H.get (h : H) (b : Nat) : O := h.t.get .z (Nat.succ b)
noncomputable def H.new (h : H) (o : O) (K : Nat → H → Bool) : Bool := h.t.setK (Nat.succ h.nx) o (fun t => K h.nx ⟨t, Nat.succ h.nx, h.lg, h.df⟩)
noncomputable def H.put (h : H) (b : Nat) (o : O) (K : H → Bool) : Bool := h.t.setK (Nat.succ b) o (fun t => K ⟨t, h.nx, b :: h.lg, h.df⟩)
noncomputable def onC (o : O) (K : Nat → T V → TypeId → Option Nat → Bool) : Bool := match o with | .c n t e g => K n t e g | _ => false
noncomputable def onM (o : O) (K : List (V × V × Nat) → Nat → Bool) : Bool := match o with | .mp es cl => K es cl | _ => false
/-- A value's cells. -/
noncomputable def cellsK (v : V) (K : List V → Bool) : Bool := match v with | .u => false | .agg l => K l | .tup _ => false | v => K [v]
noncomputable def V.one (v : V) : Bool := match v with | .u => false | .agg _ => false | .tup _ => false | _ => true
noncomputable def newVar (l : List V) (e : TypeId) (h : H) (K : KT) : Bool :=
  forceN l.length fun n => T.layK l (full .u (depth n)) 1 fun t => h.new (.c n t e none) fun b h => K (.p b 0) h
noncomputable def loadV (P : Program) (t : TypeId) (b o : Nat) (h : H) (K : KT) : Bool :=
  onC (h.get b) fun n tr _ _ =>
    match (ti P t).agg with
    | true => forceN (ti P t).size fun s => (Nat.ble (Nat.add o s) n).rec false (tr.takeK s (Nat.succ o) fun l => K (.agg l) h)
    | false => (Nat.ble (Nat.succ o) n && (ti P t).one).rec false (K (tr.get .u (Nat.succ o)) h)
noncomputable def storeL (l : List V) (b o : Nat) (h : H) (K : KT) : Bool :=
  onC (h.get b) fun n tr e ex => forceN l.length fun s => (Nat.ble (Nat.add o s) n).rec false <| (l.all V.one).rec false <|
    T.layK l tr (Nat.succ o) fun tr => h.put b (.c n tr e ex) fun h => K .u h
noncomputable def storeV (P : Program) (t : TypeId) (b o : Nat) (v : V) (h : H) (K : KT) : Bool :=
  cellsK v fun l => (Nat.beq l.length (ti P t).size && Nat.ble 1 (ti P t).size).rec false (storeL l b o h K)

-- operations
noncomputable def oFalse : Fr → H → KT → Bool := fun _ _ _ => false
noncomputable def oMove (x : Operand) : Fr → H → KT → Bool := fun fr h K => K (opd x fr) h
noncomputable def oPick (c a b : Operand) : Fr → H → KT → Bool := fun fr h K => onB (opd c fr) fun x => match x with | true => K (opd a fr) h | false => K (opd b fr) h
noncomputable def oAlloc (P : Program) (e : TypeId) : Fr → H → KT → Bool := fun _ h K => (Nat.ble 1 (ti P e).zero.length).rec false (newVar (ti P e).zero e h K)
noncomputable def oBox (e : TypeId) (x : Operand) : Fr → H → KT → Bool := fun fr h K => cellsK (opd x fr) fun l => newVar l e h K
/-- Parts laid into n cells. -/
noncomputable def fillK (n : Nat) (place : Nat → Option (Nat × Nat)) (fr : Fr) (K : T V → Bool) : List (Nat × Operand) → T V → Bool :=
  List.rec (fun t => K t) (fun q _ ih t => match place q.1 with
    | none => false
    | some (off, size) => cellsK (opd q.2 fr) fun l => (Nat.beq l.length size && Nat.ble (Nat.add off size) n).rec false (T.layK l t (Nat.succ off) ih))
noncomputable def oBuild1 (P : Program) (t : TypeId) (ps : Array (Nat × Operand)) : Fr → H → KT → Bool := fun fr h K =>
  (Nat.beq (ti P t).zero.length (ti P t).size && Nat.ble 1 (ti P t).size).rec false <| T.layK (ti P t).zero (full .u (depth (ti P t).size)) 1 fun tr =>
    match (ti P t).und with
    | .struct fs => (fs.all fun f => Nat.ble 1 (ti P f.2).size).rec false <| fillK (ti P t).size (fun i => (fs[i]?).map fun f => (f.1, (ti P f.2).size)) fr (fun tr => tr.takeK (ti P t).size 1 fun l => K (.agg l) h) ps.toList tr
    | .arr _ e => (Nat.ble 1 (ti P e).size).rec false <| fillK (ti P t).size (fun i => some (Nat.mul i (ti P e).size, (ti P e).size)) fr (fun tr => tr.takeK (ti P t).size 1 fun l => K (.agg l) h) ps.toList tr
    | _ => false
/-- A struct without fields. -/
noncomputable def bareZ (u : UD) (v : V) : Bool := match u, v with | .struct [], .agg [] => true | _, _ => false
noncomputable def oBuild (P : Program) (t : TypeId) (ps : Array (Nat × Operand)) : Fr → H → KT → Bool := fun fr h K =>
  (bareZ (ti P t).und (ti P t).zv && ps.toList.isEmpty).rec (oBuild1 P t ps fr h K) (K (.agg []) h)
noncomputable def oBuildSlice (P : Program) (t : TypeId) (len : Nat) (ps : Array (Nat × Operand)) : Fr → H → KT → Bool := fun fr h K =>
  match (ti P t).und with
  | .sl e => (Nat.ble 1 (ti P e).size && Nat.ble (Nat.mul len (ti P e).size) 100000 && Nat.ble 1 (ti P e).zero.length).rec false <| forceN (Nat.mul len (ti P e).size) fun n =>
      fillK n (fun i => some (Nat.mul i (ti P e).size, (ti P e).size)) fr (fun tr => h.new (.c n tr e none) fun b h => K (.sl b 0 len (some len)) h) ps.toList (full .u (depth n))
  | _ => false
noncomputable def oLoad (P : Program) (t : TypeId) (a : Operand) : Fr → H → KT → Bool := fun fr h K => onP (opd a fr) fun b o => loadV P t b o h K
noncomputable def oStore (P : Program) (t : TypeId) (a v : Operand) : Fr → H → KT → Bool := fun fr h K => onP (opd a fr) fun b o => storeV P t b o (opd v fr) h K
noncomputable def oNil (x : Operand) : Fr → H → KT → Bool := fun fr h K =>
  match opd x fr with
  | .u => false
  | .pn => false
  | .nic => false
  | .nf => false
  | .f fn a b => (match fn with | .method _ => false | fn => K (.f fn a b) h)
  | v => K v h
noncomputable def retI (k : IntKind) (n : Int) (h : H) (K : KT) : Bool := forceI n fun n => K (.i k n) h
noncomputable def intBits (o : BinOp) (a b : Nat) : Option Nat :=
  match o with
  | .and => some (Nat.land a b)
  | .or => some (Nat.lor a b)
  | .xor => some (Nat.xor a b)
  | .shl => some (Nat.shiftLeft a b)
  | .shr => some (Nat.shiftRight a b)
  | .quo => (Nat.beq b 0).rec (some (Nat.div a b)) none
  | .rem => (Nat.beq b 0).rec (some (Nat.mod a b)) none
  | _ => none
noncomputable def wrapK (k : IntKind) (n : Int) : Int :=
  Int.rec (fun m => (Nat.ble 9223372036854775808 m).rec (IntKind.rec (motive := fun _ => Int) (k.wrap n) (k.wrap n) (k.wrap n) (.ofNat m) (.ofNat (Nat.mod m 256)) (k.wrap n) (.ofNat (Nat.mod m 4294967296)) (.ofNat m) k) (k.wrap n)) (fun _ => k.wrap n) n
noncomputable def bAdd (k : IntKind) (a b : Int) (h : H) (K : KT) : Bool := retI k (wrapK k (a + b)) h K
noncomputable def bSub (k : IntKind) (a b : Int) (h : H) (K : KT) : Bool := retI k (wrapK k (a - b)) h K
noncomputable def bMul (k : IntKind) (a b : Int) (h : H) (K : KT) : Bool := retI k (wrapK k (a * b)) h K
noncomputable def bEql (_k : IntKind) (a b : Int) (h : H) (K : KT) : Bool := K (.b (decide (a = b))) h
noncomputable def bNeq (_k : IntKind) (a b : Int) (h : H) (K : KT) : Bool := K (.b (!decide (a = b))) h
noncomputable def ltI (a b : Int) : Bool := Int.rec (fun m => Int.rec (fun n => Nat.ble (Nat.succ m) n) (fun _ => false) b) (fun _ => decide (a < b)) a
noncomputable def bLss (_k : IntKind) (a b : Int) (h : H) (K : KT) : Bool := K (.b (ltI a b)) h
noncomputable def bLeq (_k : IntKind) (a b : Int) (h : H) (K : KT) : Bool := K (.b (!ltI b a)) h
noncomputable def bGtr (_k : IntKind) (a b : Int) (h : H) (K : KT) : Bool := K (.b (ltI b a)) h
noncomputable def bGeq (_k : IntKind) (a b : Int) (h : H) (K : KT) : Bool := K (.b (!ltI a b)) h
noncomputable def onNN (a b : Int) (K : Nat → Nat → Bool) : Bool := Int.rec (fun m => Int.rec (fun n => K m n) (fun _ => false) b) (fun _ => false) a
noncomputable def bAnd (k : IntKind) (a b : Int) (h : H) (K : KT) : Bool := onNN a b fun a b => retI k (wrapK k (.ofNat (Nat.land a b))) h K
noncomputable def bOr (k : IntKind) (a b : Int) (h : H) (K : KT) : Bool := onNN a b fun a b => retI k (wrapK k (.ofNat (Nat.lor a b))) h K
noncomputable def bShl (k : IntKind) (a b : Int) (h : H) (K : KT) : Bool := onNN a b fun a b => (Nat.ble b k.bits).rec false (retI k (wrapK k (.ofNat (Nat.shiftLeft a b))) h K)
noncomputable def bShr (k : IntKind) (a b : Int) (h : H) (K : KT) : Bool := onNN a b fun a b => (Nat.ble b k.bits).rec false (retI k (.ofNat (Nat.shiftRight a b)) h K)
noncomputable def bQuo (k : IntKind) (a b : Int) (h : H) (K : KT) : Bool := Int.rec (fun n => (Nat.beq n 0).rec (retI k (wrapK k (Int.tdiv a (.ofNat n))) h K) false) (fun _ => false) b
noncomputable def bRem (k : IntKind) (a b : Int) (h : H) (K : KT) : Bool := onNN a b fun a b => (Nat.beq b 0).rec (retI k (.ofNat (Nat.mod a b)) h K) false
noncomputable def bNo (_k : IntKind) (_a _b : Int) (_h : H) (_K : KT) : Bool := false
noncomputable def binI (o : BinOp) : IntKind → Int → Int → H → KT → Bool :=
  BinOp.rec (motive := fun _ => IntKind → Int → Int → H → KT → Bool) bAdd bSub bMul bQuo bRem bAnd bOr bNo bShl bShr bNo bEql bNeq bLss bLeq bGtr bGeq o
/-- Equality of what is known whole; none: not told. -/
noncomputable def eqV (a b : V) : Option Bool :=
  match a, b with
  | .i k m, .i j n => (match decide (k = j) with | true => some (decide (m = n)) | false => none)
  | .b x, .b y => some (x == y)
  | .x k a c, .x j b d => (match decide (k = j) && Nat.beq a b && decide (c = d) with | true => some true | false => none)
  | .pn, .pn => some true
  | .pn, .p _ _ => some false
  | .p _ _, .pn => some false
  | .nic, .ic _ _ => some false
  | .ic _ _, .nic => some false
  | .nf, .f _ _ _ => some false
  | .f _ _ _, .nf => some false
  | .nf, .nf => some true
  | .sn, .sn => some true
  | .sn, .sl _ _ _ _ => some false
  | .sl _ _ _ _, .sn => some false
  | .sn, .se => some false
  | .se, .sn => some false
  | .mn, .mn => some true
  | .mn, .m _ => some false
  | .m _, .mn => some false
  | _, _ => none
noncomputable def eqLW (f : V → V → Option Bool) : List V → List V → Option Bool :=
  List.rec (fun l => match l with | [] => some true | _ => some false) (fun a _ ih l => match l with | [] => some false | b :: l => (match f a b with | some true => ih l | r => r))
/-- Keys: numbers, texts, structs of these. -/
noncomputable def eqV1 (a b : V) : Option Bool := match a with | .s l => (match b with | .s m => eqLW eqV l m | _ => none) | a => eqV a b
noncomputable def keyEq (a b : V) : Option Bool := match a with | .agg l => (match b with | .agg m => eqLW eqV1 l m | _ => none) | a => eqV1 a b
noncomputable def onO (o : Option Bool) (K : Bool → Bool) : Bool := match o with | some x => K x | none => false
noncomputable def cmpS (o : BinOp) (a b : List V) (h : H) (K : KT) : Bool :=
  match o with
  | .add => (Nat.ble (Nat.add a.length b.length) 1000000).rec false (K (.s (a ++ b)) h)
  | .eql => onO (eqLW eqV a b) fun x => K (.b x) h
  | .neq => onO (eqLW eqV a b) fun x => K (.b (!x)) h
  | _ => false
/-- The operands' makes must fit the type. -/
noncomputable def fit1 (u : UD) (v : V) : Bool :=
  match u, v with
  | .int _, .i _ _ => true
  | .int _, .x _ _ _ => true
  | .bool, .b _ => true
  | .str, .s _ => true
  | _, _ => false
noncomputable def eqT (P : Program) (u : TI) (a : V) : Bool :=
  match u.und, a with
  | .bool, .b _ => true
  | .ptr _, .pn => true
  | .ptr _, .p _ _ => true
  | .ifc, .nic => true
  | .ifc, .ic _ _ => true
  | .sl _, .sn => true
  | .sl _, .se => true
  | .sl _, .sl _ _ _ _ => true
  | .map _ _, .mn => true
  | .map _ _, .m _ => true
  | .func, .nf => true
  | .func, .f _ _ _ => true
  | .struct fs, .agg l => u.seq && Nat.beq fs.length l.length && (fs.zip l).all fun q => fit1 (udAt P q.1.2) q.2
  | _, _ => false
noncomputable def binV (P : Program) (o : BinOp) (t : TypeId) (a b : V) (h : H) (K : KT) : Bool :=
  (eqT P (ti P t) a && eqT P (ti P t) b).rec false (match o with
    | .eql => onO (keyEq a b) fun x => K (.b x) h
    | .neq => onO (keyEq a b) fun x => K (.b (!x)) h
    | _ => false)
noncomputable def vI {β : Type} (v : V) (K : IntKind → Int → β) (d : β) : β := match v with | .i k n => K k n | _ => d
noncomputable def vS {β : Type} (v : V) (K : List V → β) (d : β) : β := match v with | .s l => K l | _ => d
noncomputable def kindEq (a b : IntKind) (y n : Bool) : Bool := (decide (a = b)).rec n y
noncomputable def isShift (o : BinOp) : Bool := match o with | .shl => true | .shr => true | _ => false
noncomputable def sameX (a b : V) : Bool :=
  match a, b with
  | .x k a c, .x j b d => decide (k = j) && Nat.beq a b && decide (c = d)
  | .i k m, .i j n => decide (k = j) && decide (m = n)
  | _, _ => false
noncomputable def sameO (o p : BinOp) : Bool := decide (o = p)
noncomputable def findFx (o : BinOp) (a b : V) : Option V := (tab.fx.find? fun f => sameO f.o o && sameX f.a a && sameX f.b b).map (·.r)
noncomputable def kindU (v : V) : Option IntKind := match v with | .i k _ => some k | .x k _ _ => some k | .ui k => some k | _ => none
noncomputable def isSum (o : BinOp) : Bool := match o with | .add => true | .sub => true | _ => false
noncomputable def binX (o : BinOp) (a b : V) (h : H) (K : KT) : Bool :=
  match findFx o a b with
  | some r => K r h
  | none => (match kindU a, kindU b with
    | some k, some j => (isSum o && decide (k = j)).rec false (K (.ui k) h)
    | _, _ => false)
noncomputable def binY (P : Program) (o : BinOp) (t : TypeId) (a b : V) (h : H) (K : KT) : Bool :=
  match a with
  | .x _ _ _ => binX o a b h K
  | .ui _ => binX o a b h K
  | a => binV P o t a b h K
noncomputable def oBin (P : Program) (o : BinOp) (t : TypeId) (x y : Operand) : Fr → H → KT → Bool := fun fr h K =>
  vI (opd x fr) (fun k a => vI (opd y fr) (fun j b => (isShift o).rec (kindEq k j (binI o k a b h K) false) (binI o k a b h K)) (binX o (opd x fr) (opd y fr) h K))
    (vS (opd x fr) (fun a => vS (opd y fr) (fun b => cmpS o a b h K) false) (binY P o t (opd x fr) (opd y fr) h K))
noncomputable def oUn (o : UnOp) (x : Operand) : Fr → H → KT → Bool := fun fr h K =>
  match o, opd x fr with
  | .neg, .i k n => retI k (k.wrap (0 - n)) h K
  | .not, .b x => K (.b (!x)) h
  | _, _ => false
noncomputable def isByte (v : V) : Bool := match v with | .i k (.ofNat n) => (match k with | .u8 => Nat.ble (Nat.succ n) 256 | _ => false) | .x k a (.ofNat 0) => (match k with | .u8 => tab.by_.contains a | _ => false) | _ => false
noncomputable def UD.isU8 (u : UD) : Bool := match u with | .int .u8 => true | _ => false
noncomputable def findCx (k : IntKind) (a : V) : Option V := (tab.cx.find? fun f => decide (f.k = k) && sameX f.a a).map (·.r)
noncomputable def oConv (P : Program) (s d : TypeId) (x : Operand) : Fr → H → KT → Bool := fun fr h K =>
  match (ti P d).und with
  | .int k => (match (ti P s).und with | .oth => false | _ => vI (opd x fr) (fun _ n => retI k (wrapK k n) h K) (match findCx k (opd x fr) with | some r => K r h | none => false))
  | .str => (match (ti P s).und with
    | .str => (match opd x fr with
      | .s l => K (.s l) h
      | .sv a => K (.sv a) h
      | _ => false)
    | .sl e => (ti P e).und.isU8.rec false (match opd x fr with
      | .sn => K (.s []) h
      | .se => K (.s []) h
      | .sl b o len _ => onC (h.get b) fun n tr _ _ => (Nat.ble (Nat.add o len) n).rec false (tr.takeK len (Nat.succ o) fun l => (l.all isByte).rec false (K (.s l) h))
      | _ => false)
    | _ => false)
  | _ => false
noncomputable def oArrPtr (P : Program) (t : TypeId) (x : Operand) : Fr → H → KT → Bool := fun fr h K =>
  match (ti P t).und, opd x fr with
  | .arr n _, .sl b o len _ => (Nat.ble n len).rec false (K (.p b o) h)
  | _, _ => false
noncomputable def UD.isIfc : UD → Bool
  | .ifc => false
  | .oth => false
  | _ => true
noncomputable def oIface (P : Program) (t : TypeId) (x : Operand) : Fr → H → KT → Bool := fun fr h K => (ti P t).und.isIfc.rec false (K (.ic t (opd x fr)) h)
noncomputable def opds (l : List Operand) (fr : Fr) : List V := List.rec [] (fun x _ ih => opd x fr :: ih) l
noncomputable def oFunc (fn : Fn) (a b : Array Operand) : Fr → H → KT → Bool := fun fr h K => K (.f fn (opds a.toList fr) (opds b.toList fr)) h
noncomputable def oMakeMap (_t : TypeId) (r : Option Operand) : Fr → H → KT → Bool := fun _ h K => match r with | none => h.new (.mp [] 0) fun b h => K (.m b) h | some _ => false
/-- The one cell of which a row of zeros is made. -/
noncomputable def zeroOne (l : List V) : Option V := match l with | [z] => some z | zs => (zs.all fun z => match z with | .i .u8 0 => true | _ => false).rec none (some (.i .u8 0))
noncomputable def oMakeSlice (P : Program) (t : TypeId) (l c : Operand) : Fr → H → KT → Bool := fun fr h K =>
  match (ti P t).und with
  | .sl e => onNat (opd l fr) fun l => onNat (opd c fr) fun c => (Nat.ble l c && Nat.ble c 100000 && Nat.ble (Nat.mul (ti P e).bytes c) 1000000000 && Nat.ble 1 (ti P e).size && Nat.beq (ti P e).zero.length (ti P e).size).rec false <| forceN (Nat.mul c (ti P e).size) fun n =>
      (match zeroOne (ti P e).zero with
      | some z => h.new (.c n (full z (depth n)) e none) fun b h => K (.sl b 0 l (some c)) h
      | none => false)
  | _ => false
noncomputable def optNat (o : Option Operand) (d : Nat) (fr : Fr) (K : Nat → Bool) : Bool := match o with | none => K d | some x => onNat (opd x fr) K
/-- With a bound of the capacity. -/
noncomputable def oSlice3 (P : Program) (t : TypeId) (x : Operand) (lo hi : Option Operand) (m : Operand) : Fr → H → KT → Bool := fun fr h K =>
  match hi with
  | none => false
  | some hi => optNat lo 0 fr fun a => onNat (opd hi fr) fun z => onNat (opd m fr) fun c => (Nat.ble a z && Nat.ble z c).rec false <|
    match (ti P t).und, opd x fr with
    | .sl e, .sl b o len cap => (Nat.ble 1 (ti P e).size && (match cap with | some cp => Nat.ble c cp | none => Nat.ble c len)).rec false
        ((Nat.beq c a).rec (forceN (Nat.add o (Nat.mul a (ti P e).size)) fun o' => forceN (Nat.sub z a) fun l' => forceN (Nat.sub c a) fun c' => K (.sl b o' l' (some c')) h) (K (.sl b o 0 (some 0)) h))
    | .sl e, .sn => (Nat.ble 1 (ti P e).size && Nat.beq c 0).rec false (K .sn h)
    | .sl e, .se => (Nat.ble 1 (ti P e).size && Nat.beq c 0).rec false (K .se h)
    | _, _ => false
/-- There is room for z elements of that size in what an append made. -/
noncomputable def roomK (b : O) (o size z : Nat) : Bool := match b with | .c n _ _ (some g) => Nat.beq o 0 && Nat.beq g size && Nat.ble (Nat.mul z size) n | _ => false
noncomputable def oSlice (P : Program) (t : TypeId) (x : Operand) (lo hi mx : Option Operand) : Fr → H → KT → Bool := fun fr h K =>
  match mx with
  | some m => oSlice3 P t x lo hi m fr h K
  | none => match (ti P t).und, opd x fr with
    | .str, .s l => optNat lo 0 fr fun a => optNat hi l.length fr fun b => (Nat.ble a b && Nat.ble b l.length).rec false (K (.s ((l.take b).drop a)) h)
    | .sl e, .sl b o len cap => (Nat.ble 1 (ti P e).size).rec false <| optNat lo 0 fr fun a => optNat hi len fr fun z => (Nat.ble a z && (Nat.ble z len || (match cap with | some c => Nat.ble z c | none => roomK (h.get b) o (ti P e).size z))).rec false
        (match cap with
        | some c => (match Nat.beq c a with
          | true => (Nat.ble z c).rec false (K (.sl b o (Nat.sub z a) (some 0)) h)
          | false => (Nat.ble z c).rec false <| forceN (Nat.add o (Nat.mul a (ti P e).size)) fun o' => forceN (Nat.sub z a) fun l' => forceN (Nat.sub c a) fun c' => K (.sl b o' l' (some c')) h)
        | none => (match a with
          | 0 => K (.sl b o z none) h
          | a' + 1 => (match Nat.beq (a' + 1) z with
            | true => K .se h
            | false => forceN (Nat.add o (Nat.mul (a' + 1) (ti P e).size)) fun o' => forceN (Nat.sub z (a' + 1)) fun l' => (Nat.beq o' 0).rec (K (.sl b o' l' none) h) false)))
    | .sl e, .se => (Nat.ble 1 (ti P e).size).rec false <| optNat lo 0 fr fun a => optNat hi 0 fr fun z => (Nat.beq a 0 && Nat.beq z 0).rec false (K .se h)
    | .sl e, .sn => (Nat.ble 1 (ti P e).size).rec false <| optNat lo 0 fr fun a => optNat hi 0 fr fun z => (Nat.beq a 0 && Nat.beq z 0).rec false (K .sn h)
    | .ptr ar, .p b o => (match (ti P ar).und with | .arr n e => (Nat.ble 1 (ti P e).size).rec false <| optNat lo 0 fr fun a => optNat hi n fr fun z => (Nat.ble a z && Nat.ble z n && Nat.ble (Nat.succ a) n).rec false (K (.sl b (o + a * (ti P e).size) (z - a) (some (n - a))) h) | _ => false)
    | .arr n e, .p b o => (Nat.ble 1 (ti P e).size).rec false <| optNat lo 0 fr fun a => optNat hi n fr fun z => (Nat.ble a z && Nat.ble z n && Nat.ble (Nat.succ a) n).rec false (K (.sl b (o + a * (ti P e).size) (z - a) (some (n - a))) h)
    | _, _ => false
noncomputable def oFieldAddr (P : Program) (s : TypeId) (x : Operand) (i : Nat) : Fr → H → KT → Bool := fun fr h K => onP (opd x fr) fun b o =>
  match (ti P s).und with
  | .struct fs => (match fs[i]? with | some f => (Nat.beq (ti P f.2).size 0).rec (forceN (Nat.add o f.1) fun o => K (.p b o) h) false | none => false)
  | _ => false
noncomputable def partK (P : Program) (t : TypeId) (l : List V) (off : Nat) (h : H) (K : KT) : Bool :=
  match (ti P t).agg with
  | true => K (.agg ((l.drop off).take (ti P t).size)) h
  | false => (match (ti P t).one, l[off]? with | true, some v => K v h | _, _ => false)
noncomputable def oField (P : Program) (s : TypeId) (x : Operand) (i : Nat) : Fr → H → KT → Bool := fun fr h K => onAgg (opd x fr) fun l =>
  match (ti P s).und with
  | .struct fs => (match fs[i]? with | some f => partK P f.2 l f.1 h K | none => false)
  | _ => false
noncomputable def oIndexAddr (P : Program) (t : TypeId) (x ix : Operand) : Fr → H → KT → Bool := fun fr h K =>
  match (ti P t).und, opd x fr with
  | .sl e, .sl b o len _ => onNat (opd ix fr) fun i => (Nat.ble (Nat.succ i) len && Nat.ble 1 (ti P e).size).rec false (forceN (Nat.add o (Nat.mul i (ti P e).size)) fun o => K (.p b o) h)
  | .arr n e, .p b o => onNat (opd ix fr) fun i => (Nat.ble (Nat.succ i) n && Nat.ble 1 (ti P e).size).rec false (forceN (Nat.add o (Nat.mul i (ti P e).size)) fun o => K (.p b o) h)
  | _, _ => false
noncomputable def oIndex (P : Program) (t : TypeId) (x ix : Operand) : Fr → H → KT → Bool := fun fr h K =>
  match (ti P t).und, opd x fr with
  | .str, .s l => onNat (opd ix fr) fun i => (match l[i]? with | some v => K v h | none => false)
  | .arr n e, .agg l => onNat (opd ix fr) fun i => (Nat.ble (Nat.succ i) n && Nat.ble 1 (ti P e).size).rec false (partK P e l (i * (ti P e).size) h K)
  | _, _ => false
noncomputable def keyFit (P : Program) (kt : TypeId) (v : V) : Bool :=
  match (ti P kt).und, v with
  | .int _, .i _ _ => true
  | .str, .s _ => true
  | .struct _, .agg _ => eqT P (ti P kt) v
  | _, _ => false
noncomputable def findM (P : Program) (kt : TypeId) (k : V) (K : Option (Nat × V) → Bool) : List (V × V × Nat) → Nat → Bool :=
  List.rec (fun _ => K none) (fun e _ ih i => (keyFit P kt e.1).rec false <| match keyEq k e.1 with | some true => K (some (i, e.2.1)) | some false => ih (Nat.succ i) | none => false)
noncomputable def lookOut (ok : Bool) (zero : V) (h : H) (K : KT) (r : Option (Nat × V)) : Bool :=
  match r, ok with
  | some (_, v), true => K (.tup [v, .b true]) h
  | some (_, v), false => K v h
  | none, true => K (.tup [zero, .b false]) h
  | none, false => K zero h
noncomputable def oLookup (P : Program) (t : TypeId) (x ix : Operand) (ok : Bool) : Fr → H → KT → Bool := fun fr h K =>
  match (ti P t).und with
  | .map kt e => (keyFit P kt (opd ix fr) && Nat.ble 1 (ti P e).zero.length).rec false
    (match opd x fr with
    | .mn => lookOut ok (ti P e).zv h K none
    | .m b => onM (h.get b) fun es _ => findM P kt (opd ix fr) (lookOut ok (ti P e).zv h K) es 0
    | _ => false)
  | _ => false
noncomputable def setAt (i : Nat) (k v : V) : List (V × V × Nat) → List (V × V × Nat) := fun l => l.modify i fun e => (k, v, e.2.2)
/-- Keys of which one is as good as the other. -/
noncomputable def plainKey (v : V) : Bool := match v with | .i _ _ => true | .s _ => true | .agg l => (l.all fun z => match z with | .i _ _ => true | .s _ => true | .b _ => true | _ => false) | _ => false
noncomputable def oMapUpd (P : Program) (t : TypeId) (m k v : Operand) : Fr → H → KT → Bool := fun fr h K =>
  match (ti P t).und with
  | .map kt _ => (keyFit P kt (opd k fr)).rec false (match opd m fr with
    | .m b => onM (h.get b) fun es cl => findM P kt (opd k fr) (fun r => match r with
        | some (i, _) => h.put b (.mp (setAt i (opd k fr) (opd v fr) es) cl) fun h => K .u h
        | none => h.put b (.mp (es ++ [(opd k fr, opd v fr, cl)]) (Nat.succ cl)) fun h => K .u h) es 0
    | _ => false)
  | _ => false
noncomputable def oRange (P : Program) (t : TypeId) (x : Operand) : Fr → H → KT → Bool := fun fr h K =>
  match (ti P t).und, opd x fr with
  | .map _ _, .mn => h.new (.it none 0 [] 0) fun b h => K (.p b 0) h
  | .map _ _, .m m => onM (h.get m) fun _ cl => h.new (.it (some m) cl [] cl) fun b h => K (.p b 0) h
  | _, _ => false
noncomputable def oNext (it : Operand) (isString : Bool) : Fr → H → KT → Bool := fun fr h K =>
  match isString with
  | true => false
  | false => onP (opd it fr) fun r o => (Nat.beq o 0).rec false <| match h.get r with
    | .it none _ _ _ => K (.tup [.b false]) h
    | .it (some m) since seen last => onM (h.get m) fun es cl =>
        (!seen.isEmpty && !es.isEmpty && es.all fun e => Nat.ble last e.2.2).rec
          (match es.filter (fun e => !seen.contains e.2.2) with
          | [] => K (.tup [.b false]) h
          | [e] => (Nat.ble since e.2.2).rec (h.put r (.it (some m) since (seen ++ [e.2.2]) cl) fun h => K (.tup [.b true, e.1, e.2.1]) h) false
          | _ => false) false
    | _ => false
noncomputable def oEntry (it : Operand) : Fr → H → KT → Bool := fun fr h K => onP (opd it fr) fun r o => (Nat.beq o 0).rec false <| match h.get r with
  | .it (some m) _ seen last => onM (h.get m) fun es cl => (Nat.beq cl last).rec false <| match seen.getLast? with
    | some st => (match es.find? (fun e => Nat.beq e.2.2 st) with | some e => K (.tup [e.1, e.2.1]) h | none => false)
    | none => false
  | _ => false
noncomputable def oAssert (P : Program) (x : Operand) (t : TypeId) (ok : Bool) : Fr → H → KT → Bool := fun fr h K =>
  ((ti P t).und.isIfc && Nat.ble 1 (ti P t).zero.length).rec false (match opd x fr with
    | .ic d v => (match Nat.beq d t, ok with
      | true, true => K (.tup [v, .b true]) h
      | true, false => K v h
      | false, true => K (.tup [(ti P t).zv, .b false]) h
      | false, false => false)
    | .nic => (match ok with | true => K (.tup [(ti P t).zv, .b false]) h | false => false)
    | _ => false)
noncomputable def oExtract (x : Operand) (i : Nat) : Fr → H → KT → Bool := fun fr h K => match opd x fr with | .tup l => (match l[i]? with | some v => K v h | none => false) | _ => false
-- builtins
noncomputable def lenK (P : Program) (t : TypeId) (v : V) (h : H) (K : KT) : Bool :=
  match (ti P t).und with
    | .arr n _ => K (.i .i64 (natI n)) h
    | .ptr u => (match (ti P u).und with | .arr n _ => K (.i .i64 (natI n)) h | _ => false)
    | .str => (match v with | .s l => K (.i .i64 (natI l.length)) h | _ => false)
    | .sl _ => (match v with | .sn => K (.i .i64 (natI 0)) h | .se => K (.i .i64 (natI 0)) h | .sl _ _ n _ => K (.i .i64 (natI n)) h | _ => false)
    | .map _ _ => (match v with | .mn => K (.i .i64 (natI 0)) h | .m b => onM (h.get b) fun es _ => K (.i .i64 (natI es.length)) h | _ => false)
    | _ => false
/-- The first cells of a slice. -/
noncomputable def firstK (size : Nat) (v : V) (h : H) (K : List V → Nat → Bool) : Bool :=
  match v with
  | .sn => K [] 0
  | .se => K [] 0
  | .sl b o len _ => onC (h.get b) fun n tr _ _ => forceN (Nat.mul len size) fun s => (Nat.ble (Nat.add o s) n).rec false (tr.takeK s (Nat.succ o) fun l => K l len)
  | _ => false
/-- A new row behind an append. -/
noncomputable def growK (l : List V) (e : TypeId) (size len : Nat) (h : H) (K : KT) : Bool :=
  forceN l.length fun s => T.layK l (full .u (depth s)) 1 fun tr => h.new (.c s tr e (some size)) fun b h => K (.sl b 0 len none) h
noncomputable def bAppend (P : Program) (t : TypeId) (a x : V) (h : H) (K : KT) : Bool :=
  match (ti P t).und with
  | .sl e => (Nat.ble 1 (ti P e).size && Nat.beq (ti P e).zero.length (ti P e).size && Nat.ble (ti P e).bytes 100000).rec false <| firstK (ti P e).size x h fun new n => (Nat.ble n 10000).rec false
      (match a with
      | .sn => (match Nat.beq n 0 with
        | true => K .sn h
        | false => growK new e (ti P e).size n h K)
      | .sl b o len cap => (Nat.ble len 100000).rec false (match cap with
        | some c => (match Nat.ble (Nat.add len n) c with
          | true => forceN (Nat.add len n) fun len' => storeL new b (Nat.add o (Nat.mul len (ti P e).size)) h fun _ h => K (.sl b o len' (some c)) h
          | false => firstK (ti P e).size a h fun old _ => forceN (Nat.add len n) fun len' => growK (old ++ new) e (ti P e).size len' h K)
        | none => (match Nat.beq n 0 with
          | true => K (.sl b o len none) h
          | false => onC (h.get b) fun _ _ e' g => (Nat.beq o 0 && Nat.beq e' e && (match g with | some g => Nat.beq g (ti P e).size | none => false) && new.all V.one).rec false <|
              firstK (ti P e).size a h fun old _ => forceN (Nat.add len n) fun len' => h.put b .z fun h => growK (old ++ new) e (ti P e).size len' h K))
      | _ => false)
  | _ => false
noncomputable def bCopy (P : Program) (t : TypeId) (d s : V) (h : H) (K : KT) : Bool :=
  match (ti P t).und, d with
  | .sl e, .sl b o len _ => (Nat.ble 1 (ti P e).size).rec false <| firstK (ti P e).size s h fun l n => (Nat.ble n len).rec false (storeL l b o h fun _ h => K (.i .i64 (natI n)) h)
  | _, _ => false
noncomputable def bDelete (P : Program) (t : TypeId) (m k : V) (h : H) (K : KT) : Bool :=
  match (ti P t).und with
  | .map kt _ => (keyFit P kt k).rec false (match m with
    | .mn => K (.tup []) h
    | .m b => onM (h.get b) fun es cl => findM P kt k (fun r => match r with
        | some (i, _) => h.put b (.mp (es.eraseIdx i) cl) fun h => K (.tup []) h
        | none => h.put b (.mp es cl) fun h => K (.tup []) h) es 0
    | _ => false)
  | _ => false
noncomputable def blanks : Nat → List V := Nat.rec [] (fun _ l => .u :: l)
noncomputable def bClear (P : Program) (t : TypeId) (x : V) (h : H) (K : KT) : Bool :=
  match (ti P t).und, x with
  | .sl _, .sn => K (.tup []) h
  | .sl _, .se => K (.tup []) h
  | .sl e, .sl b o len _ => (Nat.ble 1 (ti P e).zero.length && Nat.beq (ti P e).zero.length (ti P e).size && (ti P e).zero.all V.one).rec false <| onC (h.get b) fun n tr e' g => forceN (Nat.mul len (ti P e).size) fun s => (Nat.ble (Nat.add o s) n).rec false <|
        T.layK (blanks s) tr (Nat.succ o) fun tr => h.put b (.c n tr e' g) fun h => K (.tup []) h
  | .map _ _, .mn => K (.tup []) h
  | .map _ _, .m b => onM (h.get b) fun _ cl => h.put b (.mp [] cl) fun h => K (.tup []) h
  | _, _ => false
noncomputable def findMx (mx : Bool) (a b : V) : Option V := (tab.mx.find? fun f => (f.mx == mx) && sameX f.a a && sameX f.b b).map (·.r)
noncomputable def bMinMax (mx : Bool) (l : List V) (h : H) (K : KT) : Bool :=
  match l with
  | [.i k a, .i _ b] => (match mx with | true => K (.i k (if b > a then b else a)) h | false => K (.i k (if b < a then b else a)) h)
  | [a, b] => (match findMx mx a b with | some r => K r h | none => false)
  | _ => false
noncomputable def builtinK (P : Program) (b : Builtin) (ts : List TypeId) (args : List V) (h : H) (K : KT) : Bool :=
  match b, ts, args with
  | .len, [t], [x] => lenK P t x h K
  | .append, [t, t'], [a, x] => (Nat.beq t t').rec false (bAppend P t a x h K)
  | .copy, t :: _, [a, x] => bCopy P t a x h K
  | .delete, t :: _, [m, k] => bDelete P t m k h K
  | .clear, t :: _, [x] => bClear P t x h K
  | .max, _, l => bMinMax true l h K
  | .min, _, l => bMinMax false l h K
  | _, _, _ => false
/-- Calls of functions, given how they are played. -/
abbrev CT := FuncId → List V → H → KT → Bool
noncomputable def callV (fv : V) (args : List V) (C : CT) (h : H) (K : KT) : Bool :=
  match fv with
  | .f (.func f) first cap => C f (first ++ args ++ cap) h K
  | _ => false
/-- A method of a dynamic type: the function, and whether its receiver is a pointer. -/
noncomputable def methK (P : Program) (t : TypeId) (v : V) (name : String) (h : H) (K : FuncId → V → H → Bool) : Bool :=
  match (P.types[t]?).bind (fun i => i.methods.find? (·.name == name)) with
  | some ⟨_, _, path, some (f, ptr)⟩ => (match path.toList with
    | [] => (match (ti P t).und, ptr, v with
      | .ptr _, true, v => K f v h
      | .ptr e, false, .p b o => loadV P e b o h fun v h => K f v h
      | .ptr _, _, _ => false
      | .oth, _, _ => false
      | _, false, v => K f v h
      | _, _, _ => false)
    | _ => false)
  | _ => false
noncomputable def oCall (P : Program) (c : Call) : CT → Fr → H → KT → Bool := fun C fr h K =>
  match c.callee with
  | .value f => callV (opd f fr) (opds c.args.toList fr) C h K
  | .builtin b => builtinK P b c.argTypes.toList (opds c.args.toList fr) h K
  | .invoke r name => (match opd r fr with | .ic t v => methK P t v name h fun f v h => C f (v :: opds c.args.toList fr) h K | _ => false)
noncomputable def ign (o : Fr → H → KT → Bool) : CT → Fr → H → KT → Bool := fun _ => o
noncomputable def k_no : CT → Fr → H → KT → Bool := fun _ => oFalse
noncomputable def k_move (_ : Program) (x : Operand) : CT → Fr → H → KT → Bool := ign (oMove x)
noncomputable def k_assign (_ : Program) (x : Operand) : CT → Fr → H → KT → Bool := ign (oMove x)
noncomputable def k_pick (_ : Program) (c a b : Operand) : CT → Fr → H → KT → Bool := ign (oPick c a b)
noncomputable def k_alloc (P : Program) (e : TypeId) : CT → Fr → H → KT → Bool := ign (oAlloc P e)
noncomputable def k_box (_ : Program) (e : TypeId) (x : Operand) : CT → Fr → H → KT → Bool := ign (oBox e x)
noncomputable def k_build (P : Program) (t : TypeId) (ps : Array (Nat × Operand)) : CT → Fr → H → KT → Bool := ign (oBuild P t ps)
noncomputable def k_buildSlice (P : Program) (t : TypeId) (n : Nat) (ps : Array (Nat × Operand)) : CT → Fr → H → KT → Bool := ign (oBuildSlice P t n ps)
noncomputable def k_insert (P : Program) (t : TypeId) (m k v : Operand) : CT → Fr → H → KT → Bool := ign (oMapUpd P t m k v)
noncomputable def k_load (P : Program) (t : TypeId) (a : Operand) : CT → Fr → H → KT → Bool := ign (oLoad P t a)
noncomputable def k_store (P : Program) (t : TypeId) (a v : Operand) : CT → Fr → H → KT → Bool := ign (oStore P t a v)
noncomputable def k_nilCheck (_ : Program) (x : Operand) : CT → Fr → H → KT → Bool := ign (oNil x)
noncomputable def k_binOp (P : Program) (o : BinOp) (t : TypeId) (x y : Operand) (_ : TypeId) : CT → Fr → H → KT → Bool := ign (oBin P o t x y)
noncomputable def k_unOp (_ : Program) (o : UnOp) (_ : TypeId) (x : Operand) : CT → Fr → H → KT → Bool := ign (oUn o x)
noncomputable def k_convert (P : Program) (s d : TypeId) (x : Operand) : CT → Fr → H → KT → Bool := ign (oConv P s d x)
noncomputable def k_sliceToArrayPointer (P : Program) (t : TypeId) (x : Operand) : CT → Fr → H → KT → Bool := ign (oArrPtr P t x)
noncomputable def k_makeInterface (P : Program) (t : TypeId) (x : Operand) : CT → Fr → H → KT → Bool := ign (oIface P t x)
noncomputable def k_makeFunc (_ : Program) (fn : Fn) (a b : Array Operand) : CT → Fr → H → KT → Bool := ign (oFunc fn a b)
noncomputable def k_makeMap (_ : Program) (t : TypeId) (r : Option Operand) : CT → Fr → H → KT → Bool := ign (oMakeMap t r)
noncomputable def k_makeSlice (P : Program) (t : TypeId) (l c : Operand) : CT → Fr → H → KT → Bool := ign (oMakeSlice P t l c)
noncomputable def k_slice (P : Program) (t : TypeId) (x : Operand) (lo hi mx : Option Operand) : CT → Fr → H → KT → Bool := ign (oSlice P t x lo hi mx)
noncomputable def k_fieldAddr (P : Program) (s : TypeId) (x : Operand) (i : Nat) : CT → Fr → H → KT → Bool := ign (oFieldAddr P s x i)
noncomputable def k_field (P : Program) (s : TypeId) (x : Operand) (i : Nat) : CT → Fr → H → KT → Bool := ign (oField P s x i)
noncomputable def k_indexAddr (P : Program) (t : TypeId) (x i : Operand) : CT → Fr → H → KT → Bool := ign (oIndexAddr P t x i)
noncomputable def k_index (P : Program) (t : TypeId) (x i : Operand) : CT → Fr → H → KT → Bool := ign (oIndex P t x i)
noncomputable def k_lookup (P : Program) (t : TypeId) (x i : Operand) (ok : Bool) : CT → Fr → H → KT → Bool := ign (oLookup P t x i ok)
noncomputable def k_mapUpdate (P : Program) (t : TypeId) (m k v : Operand) : CT → Fr → H → KT → Bool := ign (oMapUpd P t m k v)
noncomputable def k_range (P : Program) (t : TypeId) (x : Operand) : CT → Fr → H → KT → Bool := ign (oRange P t x)
noncomputable def k_next (_ : Program) (it : Operand) (s : Bool) : CT → Fr → H → KT → Bool := ign (oNext it s)
noncomputable def k_entry (_ : Program) (it : Operand) : CT → Fr → H → KT → Bool := ign (oEntry it)
noncomputable def k_typeAssert (P : Program) (x : Operand) (_ t : TypeId) (ok : Bool) : CT → Fr → H → KT → Bool := ign (oAssert P x t ok)
noncomputable def k_extract (_ : Program) (x : Operand) (i : Nat) : CT → Fr → H → KT → Bool := ign (oExtract x i)
noncomputable def k_call (P : Program) (c : Call) : CT → Fr → H → KT → Bool := oCall P c
noncomputable def opK (P : Program) (o : Op) : CT → Fr → H → KT → Bool :=
  Op.rec (motive := fun _ => CT → Fr → H → KT → Bool) (k_move P) (k_assign P) (k_pick P) (k_alloc P) (k_box P) (k_build P) (k_buildSlice P) (k_insert P) (k_load P) (k_store P) (fun _ => k_no) (fun _ => k_no) (k_nilCheck P) (k_binOp P) (k_unOp P) (k_convert P) (k_sliceToArrayPointer P) (k_makeInterface P) (k_makeFunc P) (k_makeMap P) (fun _ _ => k_no) (k_makeSlice P) (k_slice P) (k_fieldAddr P) (k_field P) (k_indexAddr P) (k_index P) (k_lookup P) (k_mapUpdate P) (fun _ _ _ => k_no) (fun _ _ _ _ => k_no) (k_range P) (k_next P) (k_entry P) (k_typeAssert P) (k_extract P) (k_call P) (fun _ => k_no) (fun _ => k_no) (fun _ => k_no) (fun _ _ => k_no) (fun _ _ _ => k_no) (fun _ _ => k_no) o
noncomputable def oDefer (c : Call) (fr : Fr) (h : H) (K : H → Bool) : Bool :=
  match c.callee with
  | .value f => (match opd f fr with
    | .f fn first cap => K ⟨h.t, h.nx, h.lg, (.f fn first cap :: opds c.args.toList fr) :: h.df⟩
    | _ => false)
  | _ => false
/-- Is the operation wanted? -/
noncomputable def wantedK (ops : Array Oper) (o : Oper) (fr : Fr) (yes no : Bool) : Bool :=
  match o.guard with
  | none => yes
  | some (j, want) => (match (ops[j]?).bind (·.dst) with
    | some d => (match fr.get .u (Nat.succ d) with | .b x => (x == want).rec no yes | .tup _ => no | _ => false)
    | none => false)
noncomputable def putK (d : Option Tmp) (v : V) (fr : Fr) (K : Fr → Bool) : Bool := match d with | none => K fr | some d => fr.setK (Nat.succ d) v K
noncomputable def regK (P : Program) (C : CT) (ops : Array Oper) (K : Fr → H → Bool) : List Oper → Fr → H → Bool :=
  List.rec (fun fr h => K fr h) (fun o _ ih fr h => wantedK ops o fr
    (opK P o.op C fr h fun v h => putK o.dst v fr fun fr => ih fr h)
    (putK o.dst (.tup []) fr fun fr => ih fr h))
/-- With operations that defer a call. -/
noncomputable def regFK (P : Program) (C : CT) (ops : Array Oper) (K : Fr → H → Bool) : List Oper → Fr → H → Bool :=
  List.rec (fun fr h => K fr h) (fun o _ ih fr h => wantedK ops o fr
    (match o.op with
    | .defer c => (match o.dst with | none => oDefer c fr h fun h => ih fr h | some _ => false)
    | op => opK P op C fr h fun v h => putK o.dst v fr fun fr => ih fr h)
    (putK o.dst (.tup []) fr fun fr => ih fr h))
/-- What an operation of a region that draws left. -/
structure Rc where
  i : Nat
  lo : Nat
  hi : Nat
  wr : List Nat
  free : Bool
  rd : List Nat
/-- May it look at the block? -/
noncomputable def Rc.sees (q : Rc) (b : Nat) : Bool := !q.free || q.rd.contains b
/-- Operations that look at no block. -/
noncomputable def freeOp : Op → Bool
  | .move _ => true | .assign _ => true | .alloc _ => true | .box _ _ => true | .build _ _ => true | .buildSlice _ _ _ => true | .nilCheck _ => true | .unOp _ _ _ => true
  | .makeInterface _ _ => true | .makeFunc _ _ _ => true | .makeMap _ _ => true | .makeSlice _ _ _ => true | .fieldAddr _ _ _ => true | .field _ _ _ => true
  | .index _ _ _ => true | .extract _ _ => true | .binOp o _ _ _ _ => (match o with | .eql => false | .neq => false | _ => true) | _ => false
noncomputable def ids (lo : Nat) : Nat → List Nat := Nat.rec [] (fun n r => Nat.add lo n :: r)
noncomputable def hideK (l : List Nat) (h : H) (K : H → Bool) : Bool := List.rec (motive := fun _ => T O → Bool) (fun t => K ⟨t, h.nx, h.lg, h.df⟩) (fun b _ ih t => t.setK (Nat.succ b) .z ih) l h.t
noncomputable def showK (l : List Nat) (h0 h : H) (K : H → Bool) : Bool := List.rec (motive := fun _ => T O → Bool) (fun t => K ⟨t, h.nx, h.lg, h.df⟩) (fun b _ ih t => t.setK (Nat.succ b) (h0.get b) ih) l h.t
/-- What was written of what was there before nx. -/
noncomputable def trim (nx : Nat) : List Nat → List Nat → List Nat :=
  List.rec (fun acc => acc) (fun b _ ih acc => (Nat.ble (Nat.succ b) nx && !acc.contains b).rec (ih acc) (ih (b :: acc)))
/-- Those ahead of it that don't bind it. -/
noncomputable def looseOf (bm : List Nat) (i : Nat) (acc : List Rc) : List Rc := acc.filter fun r => !Nat.testBit (bm.getD i 0) r.i
/-- An empty memory for new blocks. -/
noncomputable def bareK (h : H) : H := ⟨full .z 20, h.nx, [], h.df⟩
/-- The blocks that an operation looks at, where they are told; all that is known: none. -/
noncomputable def looksK (o : Op) (fr : Fr) : Option (List Nat) :=
  (freeOp o).rec (match o with
    | .load _ a => (match opd a fr with | .p b _ => some [b] | _ => none)
    | .convert _ _ x => (match opd x fr with | .sl b _ _ _ => some [b] | _ => some [])
    | .slice _ x _ _ _ => (match opd x fr with | .sl b _ _ _ => some [b] | _ => some [])
    | .lookup _ m _ _ => (match opd m fr with | .m b => some [b] | _ => some [])
    | .binOp _ _ _ _ _ => some []
    | .indexAddr _ _ _ => some []
    | .typeAssert _ _ _ _ => some []
    | .pick _ _ _ => some []
    | .call c => (match c.callee with
      | .builtin .len => (match opds c.args.toList fr with | [.m b] => some [b] | _ => some [])
      | .builtin .max => some []
      | .builtin .min => some []
      | _ => none)
    | _ => none) (some [])
/-- A memory of these alone, but for those that are hidden. -/
noncomputable def onlyK (l hid : List Nat) (h : H) (K : H → Bool) : Bool :=
  List.rec (motive := fun _ => T O → Bool) (fun t => K ⟨t, h.nx, [], h.df⟩) (fun b _ ih t => t.setK (Nat.succ b) (Bool.rec (h.get b) .z (hid.contains b)) ih) l (full .z 20)
noncomputable def hidOf (U : List Rc) : List Nat := U.flatMap fun r => r.wr ++ ids r.lo (Nat.sub r.hi r.lo)
noncomputable def opDK (P : Program) (C : CT) (bm : List Nat) (ops : Array Oper) (i : Nat) (o : Oper) (acc : List Rc) (fr : Fr) (h : H) (K : List Rc → Fr → H → Bool) : Bool :=
  wantedK ops o fr
    (Option.rec
      (let U := looseOf bm i acc
       let hid := hidOf U
       hideK hid ⟨h.t, h.nx, [], h.df⟩ fun g => opK P o.op C fr g fun v g' =>
         let wr := trim g.nx g'.lg []
         (wr.all fun b => U.all fun q => !q.sees b).rec false (putK o.dst v fr fun fr => showK hid h ⟨g'.t, g'.nx, wr ++ h.lg, h.df⟩ fun h' => K (⟨i, g.nx, g'.nx, wr, false, []⟩ :: acc) fr h'))
      (fun l => onlyK l (hidOf (looseOf bm i acc)) h fun g => opK P o.op C fr g fun v g' => (trim g.nx g'.lg []).isEmpty.rec false (putK o.dst v fr fun fr => showK (ids h.nx (Nat.sub g'.nx h.nx)) g' ⟨h.t, g'.nx, h.lg, h.df⟩ fun h' => K (⟨i, h.nx, g'.nx, [], true, l⟩ :: acc) fr h'))
      (looksK o.op fr))
    (putK o.dst (.tup []) fr fun fr => K (⟨i, h.nx, h.nx, [], true, []⟩ :: acc) fr h)
noncomputable def regDK (P : Program) (C : CT) (bm : List Nat) (ops : Array Oper) (K : Fr → H → Bool) : List (Oper × Nat) → List Rc → Fr → H → Bool :=
  List.rec (fun _ fr h => K fr h) (fun o _ ih acc fr h => opDK P C bm ops o.2 o.1 acc fr h ih)
noncomputable def aheadOf (acc : List Nat) (es : List Edge) : Nat := List.rec 0 (fun e _ ih => (Region.binds .any e).rec ih (Nat.lor ih (Nat.lor (Nat.shiftLeft 1 e.on) (acc.getD e.on 0)))) es
/-- For each operation, those that come ahead of it whatever is drawn (bits). -/
noncomputable def befK : List Oper → List Nat → (List Nat → Bool) → Bool :=
  List.rec (fun acc K => K acc) (fun o _ ih acc K => forceN (aheadOf acc o.after.toList) fun m => ih (acc ++ [m]) K)
/-- The region may draw: its operations' slots are apart, where they aren't bound; edges lead back. -/
noncomputable def drawsOK (bm : List Nat) (ops : Array Oper) : Bool :=
  (ops.toList.zipIdx.all fun (y, j) => y.after.toList.all (fun e => !Region.binds .any e || Nat.ble (Nat.succ e.on) j) &&
    ops.toList.zipIdx.all fun (x, i) => (Nat.ble (Nat.succ i) j && !Nat.testBit (bm.getD j 0) i).rec true (x.apart ops y))
inductive X where | exit (n : Nat) | ret
abbrev KN := Fr → H → Bool
abbrev KX := X → Fr → H → Bool
abbrev RT := Code → Fr → H → KN → KX → Bool
/-- A region, drawn or not; d: in a function that defers calls. -/
noncomputable def regionK (P : Program) (C : CT) (d : Bool) (ops : Array Oper) (draw : Bool) (fr : Fr) (h : H) (kn : KN) : Bool :=
  draw.rec (d.rec (regK P C ops kn ops.toList fr h) (regFK P C ops kn ops.toList fr h)) (befK ops.toList [] fun bm => (drawsOK bm ops).rec false (regDK P C bm ops kn ops.toList.zipIdx [] fr h))
abbrev CK := RT → Fr → H → KN → KX → Bool
noncomputable def c_skip : CK := fun _ fr h kn _ => kn fr h
noncomputable def c_region (P : Program) (C : CT) (d : Bool) (_ : Nat) (ops : Array Oper) (draw : Bool) : CK := fun _ fr h kn _ => regionK P C d ops draw fr h kn
noncomputable def c_seq (a b : Code) (_ _ : CK) : CK := fun r fr h kn kx => r a fr h (fun fr h => r b fr h kn kx) kx
noncomputable def c_cond (c : Operand) (a b : Code) (_ _ : CK) : CK := fun r fr h kn kx => onB (opd c fr) fun x => x.rec (r b fr h kn kx) (r a fr h kn kx)
noncomputable def c_block (id : Nat) (b : Code) (_ : CK) : CK := fun r fr h kn kx => r b fr h kn fun x fr h => X.rec (fun i => (Nat.beq i id).rec (kx (.exit i) fr h) (kn fr h)) (kx .ret fr h) x
noncomputable def c_loop (b : Code) (_ : CK) : CK := fun r fr h kn kx => r b fr h (fun fr h => r (.loop b) fr h kn kx) kx
noncomputable def c_exit (id : Nat) : CK := fun _ fr h _ kx => kx (.exit id) fr h
noncomputable def c_scope (b : Code) (_ : CK) : CK := fun r fr h kn kx => r b fr h kn kx
noncomputable def c_ret : CK := fun _ fr h _ kx => kx .ret fr h
noncomputable def c_no : CK := fun _ _ _ _ _ => false
noncomputable def codeK (P : Program) (C : CT) (d : Bool) (c : Code) : CK :=
  Code.rec (motive := fun _ => CK) c_skip (c_region P C d) c_seq c_cond c_block c_loop (fun _ _ _ _ _ _ => c_no) c_exit c_scope (fun _ => c_no) (fun _ => c_no) c_ret (fun _ => c_no) c
/-- Code, given how calls are played. -/
noncomputable def execK (P : Program) (C : CT) (d : Bool) : Nat → RT :=
  Nat.rec (fun _ _ _ _ _ => false) (fun _ ih c => codeK P C d c ih)
noncomputable def resK (P : Program) (fr : Fr) (K : KT) : List ResultVar → (List V → H → Bool) → H → Bool :=
  List.rec (fun k h => k [] h) (fun r _ ih k h => match r with
    | .tmp t => ih (fun l h => k (fr.get .u (Nat.succ t) :: l) h) h
    | .cell a t => onP (fr.get .u (Nat.succ a)) fun b o => loadV P t b o h fun v h => ih (fun l h => k (v :: l) h) h)
noncomputable def resultsK (P : Program) (fn : Func) (fr : Fr) (h : H) (K : KT) : Bool :=
  resK P fr K fn.results.toList (fun l h => match l with | [v] => K v h | l => K (.tup l) h) h
/-- The deferred calls. -/
noncomputable def defersK (C : CT) (D : FuncId → Bool) (K : H → Bool) : List (List V) → H → Bool :=
  List.rec (fun h => K h) (fun d _ ih h => match d with
    | .f (.func f) first cap :: args => (D f).rec false (C f (first ++ args ++ cap) h fun _ h => ih h)
    | _ => false)
noncomputable def defersOf (c : Code) : Bool :=
  Code.rec (motive := fun _ => Bool) false (fun _ ops _ => ops.toList.any fun o => match o.op with | .defer _ => true | _ => false) (fun _ _ a b => a || b) (fun _ _ _ a b => a || b) (fun _ _ a => a) (fun _ a => a) (fun _ _ _ _ a b => a || b) (fun _ => false) (fun _ a => a) (fun _ => false) (fun _ => false) false (fun _ => false) c
/-- All slots that are written are there. -/
noncomputable def codeOK (n : Nat) (c : Code) : Bool :=
  Code.rec (motive := fun _ => Bool) true (fun _ ops _ => ops.toList.all fun o => match o.dst with | some d => Nat.ble (Nat.succ d) n | none => true) (fun _ _ a b => a && b) (fun _ _ _ a b => a && b) (fun _ _ a => a) (fun _ a => a) (fun _ _ _ _ a b => a && b) (fun _ => true) (fun _ a => a) (fun _ => true) (fun _ => true) true (fun _ => true) c
/-- The end of a call. -/
noncomputable def finK (P : Program) (C : CT) (D : FuncId → Bool) (fn : Func) (h : H) (K : KT) (fr : Fr) (h' : H) : Bool :=
  defersK C D (fun h' => resultsK P fn fr h' fun v h' => K v ⟨h'.t, h'.nx, trim h.nx h'.lg h.lg, h.df⟩) h'.df ⟨h'.t, h'.nx, h'.lg, []⟩
noncomputable def enterK (P : Program) (C : CT) (D : FuncId → Bool) (n : Nat) (fn : Func) (args : List V) (h : H) (K : KT) : Bool :=
  Option.rec false (fun c => (codeOK fn.ntmps c && Nat.ble args.length fn.ntmps).rec false <| T.layK args (full .u 11) 1 fun fr =>
      execK P C (defersOf c) n c fr ⟨h.t, h.nx, [], []⟩ (finK P C D fn h K) fun x fr h' => X.rec (fun _ => false) (finK P C D fn h K fr h') x) fn.body
/-- Functions that may be deferred. -/
noncomputable def mayDefer (P : Program) (S : FuncId → Option (List V → H → KT → Bool)) (f : FuncId) : Bool :=
  match S f with
  | some _ => false
  | none => Option.rec false (fun fn => Option.rec false (fun c => !defersOf c) fn.body) ((ftab P).get none (Nat.succ f))
/-- A call: by what stands for it, or by its code. -/
noncomputable def callK (P : Program) (S : FuncId → Option (List V → H → KT → Bool)) (n : Nat) : Nat → CT :=
  Nat.rec (fun _ _ _ _ => false) (fun _ ih f args h K => match S f with
    | some s => s args h K
    | none => (match (ftab P).get none (Nat.succ f) with
      | some fn => enterK P ih (mayDefer P S) n fn args h K
      | none => false))
end Go.Proofs.YtphfekkllibphaaGreatDoor.Ev
namespace Go.Proofs.YtphfekkllibphaaGreatDoor.Ev
open Go

noncomputable def T.set {α : Type} (t : T α) (k : Nat) (x : α) : T α := t.setK k x fun t => t
section
variable {α β : Type} {d : α}
theorem T.setK_n (l r : T α) (v : α) (k : Nat) (x : α) (c : T α → β) : (T.n l v r).setK k x c = if k ≤ 1 then c (.n l x r) else if k % 2 = 1 then l.setK (k / 2) x (fun l' => c (.n l' v r)) else r.setK (k / 2) x (fun r' => c (.n l v r')) := by
  show Bool.rec (motive := fun _ => β) (Bool.rec (motive := fun _ => β) (r.setK (Nat.div k 2) x (fun r' => c (.n l v r'))) (l.setK (Nat.div k 2) x (fun l' => c (.n l' v r))) (Nat.beq (Nat.mod k 2) 1)) (c (.n l x r)) (Nat.ble k 1) = _
  by_cases h : k ≤ 1
  · rw [if_pos h, Nat.ble_eq_true_of_le h]
  · rw [if_neg h, show Nat.ble k 1 = false from by cases hb : Nat.ble k 1 with | true => exact absurd (Nat.le_of_ble_eq_true hb) h | false => rfl]
    by_cases h2 : k % 2 = 1
    · rw [if_pos h2, show Nat.beq (Nat.mod k 2) 1 = true from by rw [show Nat.mod k 2 = 1 from h2]; rfl]; rfl
    · rw [if_neg h2, show Nat.beq (Nat.mod k 2) 1 = false from by rw [show Nat.mod k 2 = 0 from by have : k % 2 < 2 := Nat.mod_lt _ (by omega); show k % 2 = 0; omega]; rfl]; rfl
theorem T.get_n (l r : T α) (v : α) (k : Nat) : (T.n l v r).get d k = if k ≤ 1 then v else if k % 2 = 1 then l.get d (k / 2) else r.get d (k / 2) := by
  show Bool.rec (motive := fun _ => α) (Bool.rec (motive := fun _ => α) (r.get d (Nat.div k 2)) (l.get d (Nat.div k 2)) (Nat.beq (Nat.mod k 2) 1)) v (Nat.ble k 1) = _
  by_cases h : k ≤ 1
  · rw [if_pos h, Nat.ble_eq_true_of_le h]
  · rw [if_neg h, show Nat.ble k 1 = false from by cases hb : Nat.ble k 1 with | true => exact absurd (Nat.le_of_ble_eq_true hb) h | false => rfl]
    by_cases h2 : k % 2 = 1
    · rw [if_pos h2, show Nat.beq (Nat.mod k 2) 1 = true from by rw [show Nat.mod k 2 = 1 from h2]; rfl]; rfl
    · rw [if_neg h2, show Nat.beq (Nat.mod k 2) 1 = false from by rw [show Nat.mod k 2 = 0 from by have : k % 2 < 2 := Nat.mod_lt _ (by omega); show k % 2 = 0; omega]; rfl]; rfl
theorem T.setK_eq (t : T α) (k : Nat) (x : α) (c : T α → β) : t.setK k x c = c (t.set k x) := by
  induction t generalizing β k with
  | e => rfl
  | n l v r il ir =>
    rw [T.set, T.setK_n, T.setK_n]
    by_cases h : k ≤ 1
    · rw [if_pos h, if_pos h]
    · rw [if_neg h, if_neg h]
      by_cases h2 : k % 2 = 1
      · rw [if_pos h2, if_pos h2, il, il]
      · rw [if_neg h2, if_neg h2, ir, ir]
theorem T.set_n (l r : T α) (v : α) (k : Nat) (x : α) : (T.n l v r).set k x = if k ≤ 1 then .n l x r else if k % 2 = 1 then .n (l.set (k / 2) x) v r else .n l v (r.set (k / 2) x) := by
  rw [T.set, T.setK_n, T.setK_eq, T.setK_eq]
theorem T.get_set_ne {t : T α} {j k : Nat} (x : α) (hk : 1 ≤ k) (hj : 1 ≤ j) (h : j ≠ k) : (t.set k x).get d j = t.get d j := by
  induction t generalizing j k with
  | e => rfl
  | n l v r il ir =>
    rw [T.set_n]
    by_cases h1 : k ≤ 1
    · have h9 : ¬ j ≤ 1 := by omega
      rw [if_pos h1, T.get_n, T.get_n, if_neg h9, if_neg h9]
    · rw [if_neg h1]
      by_cases h2 : k % 2 = 1
      · rw [if_pos h2, T.get_n, T.get_n]
        by_cases h3 : j ≤ 1
        · rw [if_pos h3, if_pos h3]
        · rw [if_neg h3, if_neg h3]
          by_cases h4 : j % 2 = 1
          · rw [if_pos h4, if_pos h4, il (by omega) (by omega) (by omega)]
          · rw [if_neg h4, if_neg h4]
      · rw [if_neg h2, T.get_n, T.get_n]
        by_cases h3 : j ≤ 1
        · rw [if_pos h3, if_pos h3]
        · rw [if_neg h3, if_neg h3]
          by_cases h4 : j % 2 = 1
          · rw [if_pos h4, if_pos h4]
          · rw [if_neg h4, if_neg h4, ir (by omega) (by omega) (by omega)]
theorem T.get_set_self {t : T α} {k : Nat} (x : α) (hk : 1 ≤ k) : (t.set k x).get d k = x ∨ (t.set k x).get d k = d := by
  induction t generalizing k with
  | e => exact .inr rfl
  | n l v r il ir =>
    rw [T.set_n]
    by_cases h1 : k ≤ 1
    · rw [if_pos h1, T.get_n, if_pos h1]; exact .inl rfl
    · rw [if_neg h1]
      by_cases h2 : k % 2 = 1
      · rw [if_pos h2, T.get_n, if_neg h1, if_pos h2]; exact il (by omega)
      · rw [if_neg h2, T.get_n, if_neg h1, if_neg h2]; exact ir (by omega)
/-- What a tree has behind a writing: the new, what was, or nothing. -/
theorem T.get_set {t : T α} {j k : Nat} (x : α) (hk : 1 ≤ k) (hj : 1 ≤ j) : (j = k ∧ ((t.set k x).get d j = x ∨ (t.set k x).get d j = d)) ∨ (j ≠ k ∧ (t.set k x).get d j = t.get d j) := by
  by_cases h : j = k
  · subst h; exact .inl ⟨rfl, T.get_set_self x hk⟩
  · exact .inr ⟨h, T.get_set_ne x hk hj h⟩
noncomputable def T.lay (l : List α) (t : T α) (k : Nat) : T α := T.layK l t k fun t => t
theorem T.layK_nil (t : T α) (k : Nat) (c : T α → β) : T.layK [] t k c = c t := rfl
theorem T.layK_cons (a : α) (l : List α) (t : T α) (k : Nat) (c : T α → β) : T.layK (a :: l) t k c = T.layK l (t.set k a) (k + 1) c := by
  show t.setK k a (fun t => T.layK l t (k + 1) c) = _
  rw [T.setK_eq]
theorem T.layK_eq (l : List α) (t : T α) (k : Nat) (c : T α → β) : T.layK l t k c = c (T.lay l t k) := by
  induction l generalizing t k with
  | nil => rfl
  | cons a l ih => rw [T.lay, T.layK_cons, T.layK_cons, ih, ← T.lay]
theorem T.lay_nil (t : T α) (k : Nat) : T.lay [] t k = t := rfl
theorem T.lay_cons (a : α) (l : List α) (t : T α) (k : Nat) : T.lay (a :: l) t k = T.lay l (t.set k a) (k + 1) := T.layK_cons a l t k _
theorem T.get_lay (l : List α) {t : T α} {j k : Nat} (hk : 1 ≤ k) (hj : 1 ≤ j) :
    (k ≤ j ∧ j < k + l.length ∧ (l[j - k]? = some ((T.lay l t k).get d j) ∨ (T.lay l t k).get d j = d)) ∨ ((j < k ∨ k + l.length ≤ j) ∧ (T.lay l t k).get d j = t.get d j) := by
  induction l generalizing t k with
  | nil =>
    refine .inr ⟨?_, rfl⟩
    simp
    omega
  | cons a l ih =>
    rw [T.lay_cons]
    rcases ih (t := t.set k a) (k := k + 1) (by omega) with ⟨h1, h2, h3⟩ | ⟨h1, h2⟩
    · refine .inl ⟨by omega, by simp; omega, ?_⟩
      rw [show j - k = (j - (k + 1)) + 1 from by omega]
      simpa using h3
    · by_cases h : j = k
      · subst h
        refine .inl ⟨by omega, by simp, ?_⟩
        rw [h2]
        rcases T.get_set_self (t := t) (d := d) a hk with h | h
        · exact .inl (by simp [h])
        · exact .inr h
      · refine .inr ⟨?_, by rw [h2, T.get_set_ne a hk hj h]⟩
        simp
        omega
end
noncomputable def T.take (t : T V) (n k : Nat) : List V := t.takeK n k fun l => l
theorem T.takeK_succ {β : Type} (t : T V) (n k : Nat) (c : List V → β) : t.takeK (n + 1) k c = t.takeK n (k + 1) (fun l => c (t.get .u k :: l)) := rfl
theorem T.takeK_eq {β : Type} (t : T V) (n k : Nat) (c : List V → β) : t.takeK n k c = c (t.take n k) := by
  induction n generalizing k c β with
  | zero => rfl
  | succ n ih =>
    rw [T.takeK_succ, ih]
    show _ = c (t.takeK (n + 1) k fun l => l)
    rw [T.takeK_succ, ih]
theorem T.take_succ (t : T V) (n k : Nat) : t.take (n + 1) k = t.get .u k :: t.take n (k + 1) := by rw [T.take, T.takeK_succ, T.takeK_eq]
theorem T.take_length (t : T V) (n k : Nat) : (t.take n k).length = n := by
  induction n generalizing k with
  | zero => rfl
  | succ n ih => rw [T.take_succ, List.length_cons, ih]
theorem T.take_at (t : T V) {n k i : Nat} (h : i < n) : (t.take n k)[i]? = some (t.get .u (k + i)) := by
  induction n generalizing k i with
  | zero => omega
  | succ n ih =>
    rw [T.take_succ]
    cases i with
    | zero => rfl
    | succ i => rw [List.getElem?_cons_succ, ih (by omega), show k + 1 + i = k + (i + 1) from by omega]
theorem T.get_full {α : Type} (x d : α) (n k : Nat) : (full x n).get d k = x ∨ (full x n).get d k = d := by
  induction n generalizing k with
  | zero => exact .inr rfl
  | succ n ih =>
    show (T.n (full x n) x (full x n)).get d k = x ∨ _
    rw [show full x (n + 1) = T.n (full x n) x (full x n) from rfl, T.get_n]
    split
    · exact .inl rfl
    · split <;> exact ih _
theorem forceN_eq {β : Type} (n : Nat) (K : Nat → β) : forceN n K = K n := by cases n <;> rfl
theorem forceI_eq {β : Type} (n : Int) (K : Int → β) : forceI n K = K n := by
  cases n with
  | ofNat m => exact forceN_eq m fun m => K (.ofNat m)
  | negSucc m => exact forceN_eq m fun m => K (.negSucc m)
theorem recB_false {x : Bool} {a : Bool} (h : (Bool.rec false a x : Bool) = true) : x = true ∧ a = true := by cases x <;> first | exact ⟨rfl, h⟩ | cases h
theorem recB_true {x : Bool} {a : Bool} (h : (Bool.rec a false x : Bool) = true) : x = false ∧ a = true := by cases x <;> first | exact ⟨rfl, h⟩ | cases h
end Go.Proofs.YtphfekkllibphaaGreatDoor.Ev
