/-
  SIM, PART J. One operation; the abstract machine.
-/
import Derived.Test.YtepkidlndboakaaGreatDoorSimQ
namespace Go.Proofs.YtepkidlndboakaaGreatDoor.Sim
open Go.RowKit (Below)
noncomputable section

/-! ### One operation -/
inductive Out where
  | val (v : AV) (H : T Blk) (nx : Nat)
  | skip (H : T Blk) (nx : Nat)
  | enter (f : Nat) (args : List AV)
  | round (l : Nat) (args : List AV)
  | defer (d : ADef)
  | recover
  | panic (v : AV)
def Out.of : Option ARes → Option Out
  | some (.val v H nx) => some (.val v H nx)
  | some (.skip H nx) => some (.skip H nx)
  | none => none

/-- What the abstract machine knows of the program. -/
structure Cx where
  P : Program
  Fn : T Func
  E : T Ext
  ng : Nat
  sm : Nat → List AV → Option AV

def callF (Fn : T Func) (E : T Ext) (P : Program) (H : T Blk) (nx : Nat) (f : Nat) (args : List AV) : Option Out := match Fn.get f with
  | some fn => match fn.body with
    | some _ => some (.enter f args)
    | none => match E.get f with
      | some x => Out.of (aExt P H nx x fn.resultTypes.toList args)
      | none => none
  | none => none

def findM (name : String) : List Method → Option Method
  | [] => none
  | m :: l => bif m.name == name then some m else findM name l
/-- The function behind a method of a dynamic type that takes the value as it is. -/
def methodA (P : Program) (t : Nat) (name : String) : Option Nat := match P.info? t with
  | some i => match findM name i.methods.toList with
    | some m => match m.path.toList with
      | [] => match m.func with
        | some (f, pr) => match P.underlying t with
          | some (.pointer _) => bif pr then some f else none
          | some _ => bif pr then none else some f
          | none => none
        | none => none
      | _ :: _ => none
    | none => none
  | none => none

def lift (o : Option AV) (H : T Blk) (nx : Nat) : Option Out := Option.casesOn (motive := fun _ => Option Out) o none fun v => some (.val v H nx)
def oPick (ng : Nat) (A : T AV) (c a b : Operand) : Option AV := bnd (opv ng A c) fun v => onBool v fun t => Bool.casesOn (motive := fun _ => Option AV) t (opv ng A b) (opv ng A a)
def oBox (ng : Nat) (A : T AV) (H : T Blk) (nx : Nat) (e : TypeId) (x : Operand) : Option Out := bnd (opv ng A x) fun v => some (.val (.ptr nx 0) (H.set (.cells (v.cells.map some) e false true) nx) (nx + 1))
def oBuildSlice (P : Program) (ng : Nat) (A : T AV) (H : T Blk) (nx : Nat) (t : TypeId) (len : Nat) (parts : List (Nat × Operand)) : Option Out :=
  bnd (opvs ng A (parts.map (·.2))) fun vs => Out.of (aBuildSlice P H nx t len (zipParts parts vs))
def oLoad (P : Program) (ng : Nat) (A : T AV) (H : T Blk) (t : TypeId) (a : Operand) : Option AV := bnd (opv ng A a) fun v => loadF P H t v
def oStore (P : Program) (ng : Nat) (A : T AV) (H : T Blk) (nx : Nat) (t : TypeId) (x v : Operand) : Option Out := bnd (opv ng A x) fun vx => bnd (opv ng A v) fun vv => Out.of (storeF P H nx t vx vv)
def oBin (P : Program) (ng : Nat) (A : T AV) (op : BinOp) (t : TypeId) (x y : Operand) : Option AV := bnd (opv ng A x) fun u => bnd (opv ng A y) fun v => binF P op t (cst x || cst y) u v
def oUn (ng : Nat) (A : T AV) (op : UnOp) (x : Operand) : Option AV := bnd (opv ng A x) fun v => qUn op v
def oField (P : Program) (ng : Nat) (A : T AV) (s : TypeId) (x : Operand) (f : Nat) : Option AV := bnd (opv ng A x) fun v => fieldF P s f v
def oExtract (ng : Nat) (A : T AV) (x : Operand) (i : Nat) : Option AV := bnd (opv ng A x) fun v => onTuple v fun vs => nthF i vs
def oMakeSlice (P : Program) (ng : Nat) (A : T AV) (H : T Blk) (nx : Nat) (t : TypeId) (l c : Operand) : Option Out := bnd (opv ng A l) fun vl => bnd (opv ng A c) fun vc => Out.of (aMakeSlice P H nx t vl vc)
def oRange (P : Program) (ng : Nat) (A : T AV) (H : T Blk) (nx : Nat) (t : TypeId) (x : Operand) : Option Out := bnd (opv ng A x) fun v => Out.of (aRange P H nx t v)
def oNext (ng : Nat) (A : T AV) (H : T Blk) (nx : Nat) (x : Operand) (str : Bool) : Option Out := Bool.casesOn (motive := fun _ => Option Out) str none (bnd (opv ng A x) fun v => Out.of (aNext H nx v))
def oConvert (P : Program) (ng : Nat) (A : T AV) (H : T Blk) (nx : Nat) (s d : TypeId) (x : Operand) : Option Out := match quiet P ng A H (.convert s d x) with
  | some v => some (.val v H nx)
  | none => match opv ng A x with
    | some v => Out.of (aBytes P H nx s d v)
    | none => none
def oDefer (ng : Nat) (A : T AV) (c : Call) : Option Out := match c with
  | ⟨.value f, args, _⟩ => match opv ng A f with
    | some (.func fi first captured) => match opvs ng A args.toList with
      | some vs => some (.defer (.fn fi captured (first ++ vs)))
      | none => none
    | _ => none
  | _ => none
def oPanic (ng : Nat) (A : T AV) (x : Operand) : Option Out := match opv ng A x with
  | some (.iface t v) => some (.panic (.iface t v))
  | _ => none
def oValue (Fn : T Func) (E : T Ext) (P : Program) (ng : Nat) (A : T AV) (H : T Blk) (nx : Nat) (f : Operand) (args : List Operand) : Option Out := match opv ng A f with
  | some (.func fi first captured) => match opvs ng A args with
    | some vs => callF Fn E P H nx fi (first ++ vs ++ captured)
    | none => none
  | some (.yield l) => match opvs ng A args with
    | some vs => some (.round l vs)
    | none => none
  | _ => none
def oInvoke (Fn : T Func) (E : T Ext) (P : Program) (ng : Nat) (A : T AV) (H : T Blk) (nx : Nat) (r : Operand) (name : String) (args : List Operand) : Option Out := match opv ng A r with
  | some (.iface t v) => match opvs ng A args with
    | some vs => match methodA P t name with
      | some f => callF Fn E P H nx f (v :: vs)
      | none => none
    | none => none
  | _ => none
def oAct2 (f : AV → AV → Option ARes) (ng : Nat) (A : T AV) (args : List Operand) : Option Out := match opvs ng A args with
  | some [x, y] => Out.of (f x y)
  | _ => none
def oBuiltin (P : Program) (ng : Nat) (A : T AV) (H : T Blk) (nx : Nat) (b : Builtin) (args : Array Operand) (argTypes : Array TypeId) : Option Out := match b with
  | .append => match argTypes.toList with
    | [sT, xT] => oAct2 (fun s x => aAppend P H nx sT xT s x) ng A args.toList
    | _ => none
  | .copy => match argTypes.toList with
    | [dT, _] => oAct2 (fun d s => aCopy P H nx dT d s) ng A args.toList
    | _ => none
  | .clear => match argTypes.toList with
    | [t] => match opvs ng A args.toList with
      | some [x] => Out.of (aClear P H nx t x)
      | _ => none
    | _ => none
  | .unsafeString => match argTypes.toList with
    | [pt, _] => match opvs ng A args.toList with
      | some [p, n] => Out.of (aUString P H nx pt p n)
      | _ => none
    | _ => none
  | .recover => some .recover
  | .len => match argTypes.toList with
    | t :: _ => match args.toList with
      | x :: _ => lift (bnd (opv ng A x) fun v => qLen P t v) H nx
      | [] => none
    | [] => none
  | b => lift (quiet P ng A H (.call ⟨.builtin b, args, argTypes⟩)) H nx
def oCall (Fn : T Func) (E : T Ext) (P : Program) (ng : Nat) (A : T AV) (H : T Blk) (nx : Nat) (c : Call) : Option Out := Call.casesOn (motive := fun _ => Option Out) c fun callee args argTypes =>
  Callee.casesOn (motive := fun _ => Option Out) callee (fun f => oValue Fn E P ng A H nx f args.toList) (fun r name => oInvoke Fn E P ng A H nx r name args.toList) (fun b => oBuiltin P ng A H nx b args argTypes)
def aop (Fn : T Func) (E : T Ext) (P : Program) (ng : Nat) (A : T AV) (H : T Blk) (nx : Nat) (op : Op) : Option Out := Op.casesOn (motive := fun _ => Option Out) op
  (fun x => lift (opv ng A x) H nx)
  (fun x => lift (opv ng A x) H nx)
  (fun c a b => lift (oPick ng A c a b) H nx)
  (fun e => Out.of (aAlloc P H nx e))
  (fun e x => oBox ng A H nx e x)
  (fun t parts => lift (quiet P ng A H (.build t parts)) H nx)
  (fun t len parts => oBuildSlice P ng A H nx t len parts.toList)
  (fun _ _ _ _ => none)
  (fun t a => lift (oLoad P ng A H t a) H nx)
  (fun t x v => oStore P ng A H nx t x v)
  (fun _ => none)
  (fun _ => none)
  (fun x => lift (quiet P ng A H (.nilCheck x)) H nx)
  (fun op t x y _ => lift (oBin P ng A op t x y) H nx)
  (fun op _ x => lift (oUn ng A op x) H nx)
  (fun s d x => oConvert P ng A H nx s d x)
  (fun _ _ => none)
  (fun t x => lift (quiet P ng A H (.makeInterface t x)) H nx)
  (fun f a c => lift (quiet P ng A H (.makeFunc f a c)) H nx)
  (fun _ r => Option.casesOn (motive := fun _ => Option Out) r (Out.of (some (aMakeMap H nx))) fun _ => none)
  (fun _ _ => none)
  (fun t l c => oMakeSlice P ng A H nx t l c)
  (fun t x lo hi mx => lift (quiet P ng A H (.slice t x lo hi mx)) H nx)
  (fun s x f => lift (oField P ng A s x f) H nx)
  (fun t x f => lift (quiet P ng A H (.field t x f)) H nx)
  (fun t x i => lift (quiet P ng A H (.indexAddr t x i)) H nx)
  (fun t x i => lift (quiet P ng A H (.index t x i)) H nx)
  (fun t x i ok => lift (quiet P ng A H (.lookup t x i ok)) H nx)
  (fun _ _ _ _ => none)
  (fun _ _ _ => none)
  (fun _ _ _ _ => none)
  (fun t x => oRange P ng A H nx t x)
  (fun x str => oNext ng A H nx x str)
  (fun _ => none)
  (fun x xt s ok => lift (quiet P ng A H (.typeAssert x xt s ok)) H nx)
  (fun x i => lift (oExtract ng A x i) H nx)
  (fun c => oCall Fn E P ng A H nx c)
  (fun _ => none)
  (fun c => oDefer ng A c)
  (fun x => oPanic ng A x)
  (fun _ _ => none)
  (fun _ _ _ => none)
  (fun _ _ => none)

/-! ### The abstract machine -/
/-- Every guard looks at a temporary. -/
def guardsOk (os : List Oper) : List Oper → Bool
  | [] => true
  | o :: l => match o.guard with
    | none => guardsOk os l
    | some (g, _) => match nth os g with
      | some o' => match o'.dst with
        | some _ => guardsOk os l
        | none => false
      | none => false
/-- A region whose order is drawn: its operations; behind which each of them must come; what each of them gave; the acting ones to come; the ones that are done for certain. -/
structure Draw where
  ops : List Oper
  anc : List Nat
  V : T AV
  todo : List Nat
  fin : Nat
inductive AItem where
  | code (c : Code)
  | inBlock (id : Nat)
  | inLoop (body : Code)
  | reg (ops : Array Oper) (l : List Oper)
  | draw (ops : Array Oper) (d : Draw)
  | drawCall (ops : Array Oper) (d : Draw) (i : Nat)
  | inRange (l : Nat)
  | endRange (l : Nat)
  | begin
inductive AMode where
  | run
  | ret
  | pan (v : AV) (recd : Bool)
structure AFrame where
  fn : Nat
  tm : T AV
  N : Nat
  todo : List AItem
  df : List ADef
  mode : AMode
  kind : Bool
  ro : Option Nat
inductive AState where
  | go (fr : AFrame) (cs : List AFrame) (H : T Blk) (nx : Nat)
  | done (v : AV) (H : T Blk) (nx : Nat)

def putT (dst : Option Tmp) (v : AV) (A : T AV) (N : Nat) : Option (T AV) := Option.casesOn (motive := fun _ => Option (T AV)) dst (some A) fun d =>
  Bool.casesOn (motive := fun _ => Option (T AV)) (Nat.ble (Nat.succ d) N) none (some (A.set v d))

mutual
def AV.beq : AV → AV → Bool
  | .bool a, .bool b => a == b
  | .int k a, .int j b => decide (k = j) && decide (a = b)
  | .str a, .str b => a == b
  | .ptr a o, .ptr b p => a.beq b && o.beq p
  | .nilptr, .nilptr => true
  | .slice a o l c s, .slice a' o' l' c' s' => a.beq a' && o.beq o' && l.beq l' && c.beq c' && s == s'
  | .nilslice, .nilslice => true
  | .map a, .map b => a.beq b
  | .nilmap, .nilmap => true
  | .func f a c, .func f' a' c' => f.beq f' && beqs a a' && beqs c c'
  | .yield a, .yield b => a.beq b
  | .nilFunc, .nilFunc => true
  | .iface t v, .iface t' v' => t.beq t' && AV.beq v v'
  | .nilIface, .nilIface => true
  | .agg a, .agg b => beqs a b
  | .tuple a, .tuple b => beqs a b
  | _, _ => false
def beqs : List AV → List AV → Bool
  | [], [] => true
  | a :: l, b :: m => AV.beq a b && beqs l m
  | _, _ => false
end
def beqO : List (Option AV) → List AV → Bool
  | [], [] => true
  | some a :: l, b :: m => AV.beq a b && beqO l m
  | _, _ => false

/-! #### Drawn orders -/
def bit (m i : Nat) : Bool := Nat.testBit m i
/-- The ones that must come before an operation, out of its edges. -/
def ancOf (acc : List Nat) : List Edge → Option Nat
  | [] => some 0
  | e :: l => match ancOf acc l with
    | some m => bif Region.binds .any e then (match nth acc e.on with
        | some a => some ((m ||| (1 <<< e.on)) ||| a)
        | none => none) else some m
    | none => none
/-- For each operation, the ones that must come before it. -/
def ancs : List Oper → List Nat → Option (List Nat)
  | [], acc => some acc
  | o :: l, acc => match ancOf acc o.after.toList with
    | some m => ancs l (acc ++ [m])
    | none => none
/-- Does the operation act on the heap, so that its place among others counts? -/
def acting (P : Program) : Op → Bool
  | .alloc _ => false
  | .move _ | .assign _ | .pick .. | .build .. | .load .. | .nilCheck _ | .binOp .. | .unOp .. | .makeInterface .. | .makeFunc .. | .slice .. | .fieldAddr .. | .field .. | .indexAddr .. | .index .. | .lookup .. | .typeAssert .. | .extract .. => false
  | .convert _ d _ => match P.underlying d with
    | some (.slice _) => true
    | _ => false
  | .call { callee := .builtin .len, .. } | .call { callee := .builtin .cap, .. } | .call { callee := .builtin .min, .. } | .call { callee := .builtin .unsafeSliceData, .. } => false
  | _ => true
def actsOf (P : Program) : List Oper → Nat → List Nat
  | [], _ => []
  | o :: l, i => bif acting P o.op then i :: actsOf P l (i + 1) else actsOf P l (i + 1)
def maskOf : List Nat → Nat
  | [] => 0
  | i :: l => (1 <<< i) ||| maskOf l
def dstsOk (N : Nat) : List Oper → List Nat → Bool
  | [], _ => true
  | o :: l, acc => match o.dst with
    | none => dstsOk N l acc
    | some d => Nat.blt d N && !acc.contains d && dstsOk N l (d :: acc)
def T.del {α : Type} : T α → Nat → T α
  | .e, _ => .e
  | .n l v r, i => bif i.beq 0 then .n l none r else bif (i % 2).beq 1 then .n (l.del (i / 2)) v r else .n l v (r.del (i / 2))
/-- The temporaries as the operation i finds them. -/
def envAt (anc : List Nat) (V : T AV) (i mi : Nat) : List Oper → Nat → T AV → T AV
  | [], _, A => A
  | o :: l, j, A => match o.dst with
    | none => envAt anc V i mi l (j + 1) A
    | some d => bif bit mi j then (match V.get j with
        | some v => envAt anc V i mi l (j + 1) (A.set v d)
        | none => envAt anc V i mi l (j + 1) (A.del d))
      else bif j.beq i || bit ((nth anc j).getD 0) i then envAt anc V i mi l (j + 1) A
      else envAt anc V i mi l (j + 1) (A.del d)
/-- Is the operation asked for? -/
def wantedD (V : T AV) (mi : Nat) (o : Oper) : Option Bool := match o.guard with
  | none => some true
  | some (g, b) => bif bit mi g then (match V.get g with
      | some (.bool c) => some (c == b)
      | some (.tuple []) => some false
      | _ => none) else none
def isZ (H : T Blk) (e : Nat) (z : AV) (b : Nat) : Bool := match H.get b with
  | some (.cells vs e' false true) => e.beq e' && beqO vs z.cells
  | _ => false
/-- The blocks that the region lays, under numbers of their own. -/
def resA (P : Program) : List Oper → Nat → T AV → T Blk → Nat → Option (T AV × T Blk × Nat)
  | [], _, V, H, nx => some (V, H, nx)
  | o :: l, i, V, H, nx => match o.op with
    | .alloc e => match zeroOf P e with
      | some z => match o.guard with
        | none => resA P l (i + 1) (V.set (.ptr nx 0) i) (H.set (.cells (z.cells.map some) e false true) nx) (nx + 1)
        | some _ => none
      | none => none
    | _ => resA P l (i + 1) V H nx
/-- One operation that does not act, at one stage. -/
def stage1 (P : Program) (ng : Nat) (old : T AV) (ops : List Oper) (anc : List Nat) (H : T Blk) (V : T AV) (i mi : Nat) (o : Oper) : Option (T AV) :=
  match wantedD V mi o with
  | none => none
  | some false => match V.get i with
    | some (.tuple []) => some V
    | some _ => none
    | none => some (V.set (.tuple []) i)
  | some true => match o.op with
    | .alloc e => match zeroOf P e with
      | some z => match V.get i with
        | some (.ptr b 0) => bif isZ H e z b then some V else none
        | _ => none
      | none => none
    | op => match quiet P ng (envAt anc V i mi ops 0 old) H op with
      | some v => match V.get i with
        | some v' => bif AV.beq v' v then some V else none
        | none => some (V.set v i)
      | none => none
/-- All operations that may run at this stage. -/
def stageA (P : Program) (ng : Nat) (old : T AV) (ops : List Oper) (anc : List Nat) (H : T Blk) (rem fin : Nat) : List Oper → List Nat → Nat → T AV → Option (T AV)
  | o :: l, mi :: ms, i, V => bif acting P o.op || bit fin i || !((mi &&& rem).beq 0) then stageA P ng old ops anc H rem fin l ms (i + 1) V
    else (match stage1 P ng old ops anc H V i mi o with
      | some V' => stageA P ng old ops anc H rem fin l ms (i + 1) V'
      | none => none)
  | [], _, _, V => some V
  | _ :: _, [], _, _ => none
def overlay : List Oper → Nat → T AV → T AV → Option (T AV)
  | [], _, _, A => some A
  | o :: l, i, V, A => match V.get i with
    | some v => match o.dst with
      | some d => overlay l (i + 1) V (A.set v d)
      | none => overlay l (i + 1) V A
    | none => none
def Draw.next (d : Draw) (a ma : Nat) (v : AV) : Draw := match d with
  | ⟨ops, anc, V, todo, fin⟩ => ⟨ops, anc, V.set v a, todo.tail, fin ||| (1 <<< a) ||| ma⟩

/-! #### Items -/
def unseqC : Code → List AItem → List AItem
  | .seq a b, k => unseqC a (.code b :: k)
  | .block id c, k => unseqC c (.inBlock id :: k)
  | .loop c, k => unseqC c (.inLoop c :: k)
  | .skip, k => k
  | .region _ ops false, k => .reg ops ops.toList :: k
  | c, k => .code c :: k
def unseq (c : Code) : List AItem → List AItem := Code.rec (motive := fun _ => List AItem → List AItem)
  (fun k => k)
  (fun id ops draw k => Bool.casesOn (motive := fun _ => List AItem) draw (.reg ops ops.toList :: k) (.code (.region id ops true) :: k))
  (fun _ b iha _ k => iha (.code b :: k))
  (fun c a b _ _ k => .code (.cond c a b) :: k)
  (fun id _ ih k => ih (.inBlock id :: k))
  (fun c ih k => ih (.inLoop c :: k))
  (fun g ps a b _ _ k => .code (.rangeFunc g ps a b) :: k)
  (fun id k => .code (.exit id) :: k)
  (fun c _ k => .code (.scope c) :: k)
  (fun l k => .code (.label l) :: k)
  (fun l k => .code (.goto l) :: k)
  (fun k => .code .ret :: k)
  (fun y k => .code (.refuse y) :: k) c
def normC : List AItem → List AItem
  | .code c :: k => unseq c k
  | .inBlock _ :: k => normC k
  | .reg _ [] :: k => normC k
  | .inLoop b :: k => unseq b (.inLoop b :: k)
  | k => k
def norm (k : List AItem) : List AItem := List.rec (motive := fun _ => List AItem) []
  (fun it k ih => AItem.casesOn (motive := fun _ => List AItem) it (fun c => unseq c k) (fun _ => ih) (fun b => unseq b (.inLoop b :: k))
    (fun ops l => List.casesOn (motive := fun _ => List AItem) l ih fun o l' => .reg ops (o :: l') :: k)
    (fun ops d => .draw ops d :: k) (fun ops d i => .drawCall ops d i :: k) (fun l => .inRange l :: k) (fun l => .endRange l :: k) (.begin :: k)) k
def exitC (id : Nat) : List AItem → Option (List AItem)
  | .inBlock j :: k => bif j.beq id then some k else exitC id k
  | _ :: k => exitC id k
  | [] => none
def exitA (id : Nat) (k : List AItem) : Option (List AItem) := List.rec (motive := fun _ => Option (List AItem)) none
  (fun it k ih => AItem.casesOn (motive := fun _ => Option (List AItem)) it (fun _ => ih) (fun j => Bool.casesOn (motive := fun _ => Option (List AItem)) (Nat.beq j id) ih (some k)) (fun _ => ih)
    (fun _ _ => ih) (fun _ _ => ih) (fun _ _ _ => ih) (fun _ => ih) (fun _ => ih) ih) k
/-- A value comes to a frame that waits for it. -/
def finI (fn : Nat) (tm : T AV) (N : Nat) (df : List ADef) (kind : Bool) (ro : Option Nat) (v : AV) (it : AItem) (k : List AItem) : Option AFrame := AItem.casesOn (motive := fun _ => Option AFrame) it
  (fun _ => none) (fun _ => none) (fun _ => none)
  (fun ops l => List.casesOn (motive := fun _ => Option AFrame) l none fun o l' => bnd (putT o.dst v tm N) fun tm' => some ⟨fn, tm', N, .reg ops l' :: k, df, .run, kind, ro⟩)
  (fun _ _ => none)
  (fun ops d a => bnd (nth d.anc a) fun ma => some ⟨fn, tm, N, .draw ops (d.next a ma v) :: k, df, .run, kind, ro⟩)
  (fun l => some ⟨fn, tm, N, .endRange l :: k, df, .run, kind, ro⟩)
  (fun _ => none) none
def finA (fr : AFrame) (v : AV) : Option AFrame := AFrame.casesOn (motive := fun _ => Option AFrame) fr fun fn tm N todo df mode kind ro =>
  AMode.casesOn (motive := fun _ => Option AFrame) mode (List.casesOn (motive := fun _ => Option AFrame) todo none fun it k => finI fn tm N df kind ro v it k) none fun _ _ => none
def ofArgsC : List AV → Nat → T AV → T AV
  | [], _, A => A
  | v :: vs, i, A => ofArgsC vs (i + 1) (A.set v i)
def ofArgs (l : List AV) : Nat → T AV → T AV := List.rec (motive := fun _ => Nat → T AV → T AV) (fun _ A => A) (fun v _ ih i A => ih (Nat.succ i) (A.set v i)) l
def newFrame (fn : Func) (f : Nat) (args : List AV) (kind : Bool) : Option AFrame := bnd fn.body fun c =>
  some ⟨f, ofArgs args 0 .e, Nat.add (lenF args) (Nat.sub fn.ntmps (lenF args)), [.code c], [], .run, kind, none⟩
/-- A call that enters a function, from a frame that waits for its value. -/
def enterA (C : Cx) (f : Nat) (args : List AV) (kind : Bool) (fr : AFrame) (cs : List AFrame) (H : T Blk) (nx : Nat) : Option AState := bnd (C.Fn.get f) fun fn => bnd (newFrame fn f args kind) fun fr' => some (.go fr' (fr :: cs) H nx)
def setPs : List Tmp → List AV → T AV → Nat → Option (T AV)
  | [], [], A, _ => some A
  | p :: ps, v :: vs, A, N => bif Nat.blt p N then setPs ps vs (A.set v p) N else none
  | _, _, _, _ => none
def roundA (l : Nat) (args : List AV) (fr : AFrame) (cs : List AFrame) (H : T Blk) (nx : Nat) : Option AState := match H.get l with
  | some (.loop ⟨_, fn, tm, N, params, assign, body, _⟩) => match setPs params.toList args tm N with
    | some tm' => some (.go ⟨fn, tm', N, [.code assign, .begin, .code body], [], .run, false, some l⟩ (fr :: cs) H nx)
    | none => none
  | _ => none
def setState (s : LoopState) (l : Nat) (H : T Blk) : Option (T Blk) := match H.get l with
  | some (.loop ⟨_, fn, tm, N, params, assign, body, d⟩) => some (H.set (.loop ⟨s, fn, tm, N, params, assign, body, d⟩) l)
  | _ => none
def goA (fr : Option AFrame) (cs : List AFrame) (H : T Blk) (nx : Nat) : Option AState := bnd fr fun fr => some (.go fr cs H nx)
/-- A value is handed back to the caller. -/
def handD (fr : AFrame) (rest : List AFrame) (H : T Blk) (nx : Nat) : Option AState := match fr with
  | ⟨fn, tm, N, todo, df, .pan _ true, kind, ro⟩ => some (.go ⟨fn, tm, N, todo, df, .ret, kind, ro⟩ rest H nx)
  | fr => some (.go fr rest H nx)
def handA (v : AV) (kind : Bool) (cs : List AFrame) (H : T Blk) (nx : Nat) : Option AState := Bool.casesOn (motive := fun _ => Option AState) kind
  (List.casesOn (motive := fun _ => Option AState) cs (some (.done v H nx)) fun c rest => goA (finA c v) rest H nx)
  (List.casesOn (motive := fun _ => Option AState) cs none fun c rest => handD c rest H nx)
def rvA (P : Program) (tm : T AV) (H : T Blk) (r : ResultVar) : Option AV := ResultVar.casesOn (motive := fun _ => Option AV) r (fun t => tm.get t) fun a t => bnd (tm.get a) fun v => loadF P H t v
def ressC (P : Program) (tm : T AV) (H : T Blk) : List ResultVar → Option (List AV)
  | [] => some []
  | r :: l => match rvA P tm H r with
    | some v => match ressC P tm H l with
      | some vs => some (v :: vs)
      | none => none
    | none => none
def ressA (P : Program) (tm : T AV) (H : T Blk) (l : List ResultVar) : Option (List AV) := List.rec (motive := fun _ => Option (List AV)) (some []) (fun r _ ih => bnd (rvA P tm H r) fun v => bnd ih fun vs => some (v :: vs)) l
def oneOr (vs : List AV) : AV := List.casesOn (motive := fun _ => AV) vs (.tuple []) fun v l => List.casesOn (motive := fun _ => AV) l v fun u m => .tuple (v :: u :: m)
def resultsA (P : Program) (fn : Func) (tm : T AV) (H : T Blk) : Option AV := bnd (ressA P tm H fn.results.toList) fun vs => some (oneOr vs)
def delDsts : List Oper → T AV → T AV
  | [], A => A
  | o :: l, A => match o.dst with
    | some d => delDsts l (A.del d)
    | none => delDsts l A
def panTm (todo : List AItem) (tm : T AV) : T AV := match todo with
  | .drawCall _ d _ :: _ => delDsts d.ops tm
  | .draw _ d :: _ => delDsts d.ops tm
  | _ => tm
def panUp (v : AV) (cs : List AFrame) (H : T Blk) (nx : Nat) : Option AState := match cs with
  | ⟨fn, tm, N, todo, df, .run, kind, ro⟩ :: rest => some (.go ⟨fn, panTm todo tm, N, [], df, .pan v false, kind, ro⟩ rest H nx)
  | _ => none
/-- A frame is left. -/
def unwindD (C : Cx) (d : ADef) (fr : AFrame) (cs : List AFrame) (H : T Blk) (nx : Nat) : Option AState := match d with
  | .collected b => match H.get b with
    | some .dfr => some (.go fr cs (H.set .dead b) nx)
    | _ => none
  | .fn f captured args => enterA C f (args ++ captured) true fr cs H nx
def unwindA (C : Cx) (fn : Nat) (tm : T AV) (N : Nat) (df : List ADef) (mode : AMode) (kind : Bool) (ro : Option Nat) (cs : List AFrame) (H : T Blk) (nx : Nat) : Option AState :=
  List.casesOn (motive := fun _ => Option AState) df
    (bnd (C.Fn.get fn) fun F => AMode.casesOn (motive := fun _ => Option AState) mode none
      (bnd (resultsA C.P F tm H) fun v => handA v kind cs H nx)
      (fun v b => Bool.casesOn (motive := fun _ => Option AState) b (panUp v cs H nx) none))
    fun d ds => unwindD C d ⟨fn, tm, N, [], ds, mode, kind, ro⟩ cs H nx
def recA (fr : AFrame) (kind : Bool) (cs : List AFrame) (H : T Blk) (nx : Nat) : Option AState := match kind with
  | false => goA (finA fr .nilIface) cs H nx
  | true => match cs with
    | ⟨fn', tm', N', todo', df', .pan v false, kind', ro'⟩ :: rest => goA (finA fr v) (⟨fn', tm', N', todo', df', .pan v true, kind', ro'⟩ :: rest) H nx
    | _ :: _ => goA (finA fr .nilIface) cs H nx
    | [] => none
def callA (C : Cx) (f : Nat) (args : List AV) (fr : AFrame) (cs : List AFrame) (H : T Blk) (nx : Nat) : Option AState := Option.casesOn (motive := fun _ => Option AState) (C.sm f args)
  (enterA C f args false fr cs H nx) fun v => goA (finA fr v) cs H nx
/-- What an operation of a region comes to. -/
def outA (C : Cx) (r : Out) (fn : Nat) (tm : T AV) (N : Nat) (todo : List AItem) (df : List ADef) (kind : Bool) (ro : Option Nat) (cs : List AFrame) (H : T Blk) (nx : Nat) : Option AState := Out.casesOn (motive := fun _ => Option AState) r
  (fun v H' nx' => goA (finA ⟨fn, tm, N, todo, df, .run, kind, ro⟩ v) cs H' nx')
  (fun H' nx' => goA (finA ⟨fn, tm, N, todo, df, .run, kind, ro⟩ (.tuple [])) cs H' nx')
  (fun f args => callA C f args ⟨fn, tm, N, todo, df, .run, kind, ro⟩ cs H nx)
  (fun l args => roundA l args ⟨fn, tm, N, todo, df, .run, kind, ro⟩ cs H nx)
  (fun d => Option.casesOn (motive := fun _ => Option AState) ro (goA (finA ⟨fn, tm, N, todo, d :: df, .run, kind, none⟩ (.tuple [])) cs H nx) fun _ => none)
  (Option.casesOn (motive := fun _ => Option AState) ro (recA ⟨fn, tm, N, todo, df, .run, kind, none⟩ kind cs H nx) fun _ => none)
  (fun v => some (.go ⟨fn, tm, N, todo, df, .pan v false, kind, ro⟩ cs H nx))
/-- Is an operation of a region wanted? -/
def yesNo (b : Bool) (v : AV) : Option Bool := AV.casesOn (motive_1 := fun _ => Option Bool) v
  (fun c => some (Bool.casesOn (motive := fun _ => Bool) c (Bool.casesOn (motive := fun _ => Bool) b true false) b)) (fun _ _ => none) (fun _ => none) (fun _ _ => none) none (fun _ _ _ _ _ => none) none (fun _ => none) none (fun _ _ _ => none) (fun _ => none) none (fun _ _ => none) none (fun _ => none)
  (fun l => List.casesOn (motive := fun _ => Option Bool) l (some false) fun _ _ => none)
def wantedA (os : List Oper) (tm : T AV) (g : Option (Nat × Bool)) : Option Bool := Option.casesOn (motive := fun _ => Option Bool) g (some true) fun p =>
  bnd (nthF p.1 os) fun o => bnd o.dst fun t => bnd (tm.get t) fun v => yesNo p.2 v
inductive RStop where
  | fin (tm : T AV) (H : T Blk) (nx : Nat)
  | out (l : List Oper) (tm : T AV) (H : T Blk) (nx : Nat) (r : Out)
def regStep (C : Cx) (os : List Oper) (N : Nat) (o : Oper) (l : List Oper) (ih : T AV → T Blk → Nat → Option RStop) (tm : T AV) (H : T Blk) (nx : Nat) : Option RStop :=
  Oper.casesOn (motive := fun _ => Option RStop) o fun dst op _ _ _ guard => bnd (wantedA os tm guard) fun b => Bool.casesOn (motive := fun _ => Option RStop) b
    (bnd (putT dst (.tuple []) tm N) fun tm' => ih tm' H nx)
    (bnd (aop C.Fn C.E C.P C.ng tm H nx op) fun r => Out.casesOn (motive := fun _ => Option RStop) r
      (fun v H' nx' => bnd (putT dst v tm N) fun tm' => ih tm' H' nx')
      (fun H' nx' => bnd (putT dst (.tuple []) tm N) fun tm' => ih tm' H' nx')
      (fun f args => some (.out (o :: l) tm H nx (.enter f args)))
      (fun i args => some (.out (o :: l) tm H nx (.round i args)))
      (fun d => some (.out (o :: l) tm H nx (.defer d)))
      (some (.out (o :: l) tm H nx .recover))
      (fun v => some (.out (o :: l) tm H nx (.panic v))))
def regLC (C : Cx) (os : List Oper) (N : Nat) : List Oper → T AV → T Blk → Nat → Option RStop
  | [], tm, H, nx => some (.fin tm H nx)
  | o :: l, tm, H, nx => regStep C os N o l (regLC C os N l) tm H nx
def regL (C : Cx) (os : List Oper) (N : Nat) (l : List Oper) : T AV → T Blk → Nat → Option RStop := List.rec (motive := fun _ => T AV → T Blk → Nat → Option RStop)
  (fun tm H nx => some (.fin tm H nx)) (fun o l ih tm H nx => regStep C os N o l ih tm H nx) l
def behind (anc : List Nat) (a : Nat) : List Nat → Bool
  | [] => true
  | b :: l => bit ((nth anc b).getD 0) a && behind anc a l

/-! #### The step -/
def stepEnd (fn : Nat) (tm : T AV) (N : Nat) (df : List ADef) (kind : Bool) (ro : Option Nat) (cs : List AFrame) (H : T Blk) (nx : Nat) : Option AState := match ro with
  | none => some (.go ⟨fn, tm, N, [], df, .ret, kind, none⟩ cs H nx)
  | some l => match df with
    | [] => match setState .ready l H with
      | some H' => match kind with
        | true => none
        | false => match cs with
          | c :: rest => goA (finA c (.bool true)) rest H' nx
          | [] => none
      | none => none
    | _ :: _ => none
def stepReg (C : Cx) (ops : Array Oper) (l : List Oper) (k : List AItem) (fn : Nat) (tm : T AV) (N : Nat) (df : List ADef) (kind : Bool) (ro : Option Nat) (cs : List AFrame) (H : T Blk) (nx : Nat) : Option AState :=
  bnd (regL C ops.toList N l tm H nx) fun r => RStop.casesOn (motive := fun _ => Option AState) r
    (fun tm' H' nx' => some (.go ⟨fn, tm', N, k, df, .run, kind, ro⟩ cs H' nx'))
    (fun l' tm' H' nx' r => outA C r fn tm' N (.reg ops l' :: k) df kind ro cs H' nx')
def stepCond (C : Cx) (c : Operand) (x y : Code) (k : List AItem) (fn : Nat) (tm : T AV) (N : Nat) (df : List ADef) (kind : Bool) (ro : Option Nat) (cs : List AFrame) (H : T Blk) (nx : Nat) : Option AState :=
  bnd (opv C.ng tm c) fun v => onBool v fun b => some (.go ⟨fn, tm, N, .code (Bool.casesOn (motive := fun _ => Code) b y x) :: k, df, .run, kind, ro⟩ cs H nx)
def stepRet (fn : Nat) (tm : T AV) (N : Nat) (df : List ADef) (kind : Bool) (ro : Option Nat) (cs : List AFrame) (H : T Blk) (nx : Nat) : Option AState := Option.casesOn (motive := fun _ => Option AState) ro
  (some (.go ⟨fn, tm, N, [], df, .ret, kind, none⟩ cs H nx)) fun _ => none
def stepRegion (C : Cx) (_ : Nat) (ops : Array Oper) (draw : Bool) (k : List AItem) (fn : Nat) (tm : T AV) (N : Nat) (df : List ADef) (kind : Bool) (ro : Option Nat) (cs : List AFrame) (H : T Blk) (nx : Nat) : Option AState := match draw with
  | false => some (.go ⟨fn, tm, N, .reg ops ops.toList :: k, df, .run, kind, ro⟩ cs H nx)
  | true => match ancs ops.toList [] with
    | some anc => bif (dstsOk N ops.toList [] && Nat.ble ops.toList.length 4096) && guardsOk ops.toList ops.toList then (match resA C.P ops.toList 0 .e H nx with
        | some (V, H', nx') => some (.go ⟨fn, tm, N, .draw ops ⟨ops.toList, anc, V, actsOf C.P ops.toList 0, 0⟩ :: k, df, .run, kind, ro⟩ cs H' nx')
        | none => none) else none
    | none => none
def stepDraw2 (C : Cx) (ops : Array Oper) (os : List Oper) (anc : List Nat) (V : T AV) (acts : List Nat) (fin : Nat) (a : Nat) (o : Oper) (ma : Nat) (k : List AItem) (fn : Nat) (tm : T AV) (N : Nat) (df : List ADef) (kind : Bool) (ro : Option Nat) (cs : List AFrame) (H : T Blk) (nx : Nat) : Option AState :=
  match wantedD V ma o with
  | some true => match aop C.Fn C.E C.P C.ng (envAt anc V a ma os 0 tm) H nx o.op with
    | some (.val v H'' nx'') => some (.go ⟨fn, tm, N, .draw ops (Draw.next ⟨os, anc, V, acts, fin⟩ a ma v) :: k, df, .run, kind, ro⟩ cs H'' nx'')
    | some (.skip H'' nx'') => some (.go ⟨fn, tm, N, .draw ops (Draw.next ⟨os, anc, V, acts, fin⟩ a ma (.tuple [])) :: k, df, .run, kind, ro⟩ cs H'' nx'')
    | some (.enter f args) => callA C f args ⟨fn, tm, N, .drawCall ops ⟨os, anc, V, acts, fin⟩ a :: k, df, .run, kind, ro⟩ cs H nx
    | some (.round l args) => roundA l args ⟨fn, tm, N, .drawCall ops ⟨os, anc, V, acts, fin⟩ a :: k, df, .run, kind, ro⟩ cs H nx
    | _ => none
  | some false => some (.go ⟨fn, tm, N, .draw ops (Draw.next ⟨os, anc, V, acts, fin⟩ a ma (.tuple [])) :: k, df, .run, kind, ro⟩ cs H nx)
  | none => none
def stepDraw (C : Cx) (ops : Array Oper) (d : Draw) (k : List AItem) (fn : Nat) (tm : T AV) (N : Nat) (df : List ADef) (kind : Bool) (ro : Option Nat) (cs : List AFrame) (H : T Blk) (nx : Nat) : Option AState := match d with
  | ⟨os, anc, V, acts, fin⟩ => match stageA C.P C.ng tm os anc H (maskOf acts) fin os anc 0 V with
    | some V' => match acts with
      | [] => match overlay os 0 V' tm with
        | some tm' => some (.go ⟨fn, tm', N, k, df, .run, kind, ro⟩ cs H nx)
        | none => none
      | a :: rest => match nth os a with
        | some o => match nth anc a with
          | some ma => bif behind anc a rest && (ma &&& maskOf acts).beq 0 then stepDraw2 C ops os anc V' acts fin a o ma k fn tm N df kind ro cs H nx else none
          | none => none
        | none => none
    | none => none
def stepBegin (k : List AItem) (fn : Nat) (tm : T AV) (N : Nat) (df : List ADef) (kind : Bool) (ro : Option Nat) (cs : List AFrame) (H : T Blk) (nx : Nat) : Option AState := match ro with
  | some l => match H.get l with
    | some (.loop ⟨.ready, _, _, _, _, _, _, _⟩) => match setState .busy l H with
      | some H' => some (.go ⟨fn, tm, N, k, df, .run, kind, ro⟩ cs H' nx)
      | none => none
    | _ => none
  | none => none
def stepEndRange (l : Nat) (k : List AItem) (fn : Nat) (tm : T AV) (N : Nat) (df : List ADef) (kind : Bool) (ro : Option Nat) (cs : List AFrame) (H : T Blk) (nx : Nat) : Option AState := match H.get l with
  | some (.loop ⟨.ready, _, _, _, _, _, _, _⟩) => match setState .exhausted l H with
    | some H' => some (.go ⟨fn, tm, N, k, df, .run, kind, ro⟩ cs H' nx)
    | none => none
  | _ => none
def stepRange (C : Cx) (g : Operand) (ps : Array Tmp) (assign body : Code) (k : List AItem) (fn : Nat) (tm : T AV) (N : Nat) (df : List ADef) (kind : Bool) (ro : Option Nat) (cs : List AFrame) (H : T Blk) (nx : Nat) : Option AState := match ro with
  | none => match opv C.ng tm g with
    | some (.func f first captured) =>
      enterA C f (first ++ [.yield (nx + 1)] ++ captured) false ⟨fn, tm, N, .inRange (nx + 1) :: k, .collected nx :: df, .run, kind, none⟩ cs
        ((H.set .dfr nx).set (.loop ⟨.ready, fn, tm, N, ps, assign, body, nx⟩) (nx + 1)) (nx + 2)
    | _ => none
  | some _ => none
def stepCode (C : Cx) (c : Code) (k : List AItem) (fn : Nat) (tm : T AV) (N : Nat) (df : List ADef) (kind : Bool) (ro : Option Nat) (cs : List AFrame) (H : T Blk) (nx : Nat) : Option AState := Code.casesOn (motive := fun _ => Option AState) c
  (some (.go ⟨fn, tm, N, k, df, .run, kind, ro⟩ cs H nx))
  (fun id ops draw => stepRegion C id ops draw k fn tm N df kind ro cs H nx)
  (fun x y => some (.go ⟨fn, tm, N, .code x :: .code y :: k, df, .run, kind, ro⟩ cs H nx))
  (fun c x y => stepCond C c x y k fn tm N df kind ro cs H nx)
  (fun id x => some (.go ⟨fn, tm, N, .code x :: .inBlock id :: k, df, .run, kind, ro⟩ cs H nx))
  (fun x => some (.go ⟨fn, tm, N, .code x :: .inLoop x :: k, df, .run, kind, ro⟩ cs H nx))
  (fun g ps a b => stepRange C g ps a b k fn tm N df kind ro cs H nx)
  (fun id => bnd (exitA id k) fun k' => some (.go ⟨fn, tm, N, k', df, .run, kind, ro⟩ cs H nx))
  (fun _ => none)
  (fun _ => some (.go ⟨fn, tm, N, k, df, .run, kind, ro⟩ cs H nx))
  (fun _ => none)
  (stepRet fn tm N df kind ro cs H nx)
  (fun _ => none)
def stepItem (C : Cx) (it : AItem) (k : List AItem) (fn : Nat) (tm : T AV) (N : Nat) (df : List ADef) (kind : Bool) (ro : Option Nat) (cs : List AFrame) (H : T Blk) (nx : Nat) : Option AState := AItem.casesOn (motive := fun _ => Option AState) it
  (fun c => stepCode C c k fn tm N df kind ro cs H nx)
  (fun _ => some (.go ⟨fn, tm, N, k, df, .run, kind, ro⟩ cs H nx))
  (fun b => some (.go ⟨fn, tm, N, .code b :: .inLoop b :: k, df, .run, kind, ro⟩ cs H nx))
  (fun ops l => stepReg C ops l k fn tm N df kind ro cs H nx)
  (fun ops d => stepDraw C ops d k fn tm N df kind ro cs H nx)
  (fun _ _ _ => none)
  (fun _ => none)
  (fun l => stepEndRange l k fn tm N df kind ro cs H nx)
  (stepBegin k fn tm N df kind ro cs H nx)
def stepRun (C : Cx) (fn : Nat) (tm : T AV) (N : Nat) (todo : List AItem) (df : List ADef) (kind : Bool) (ro : Option Nat) (cs : List AFrame) (H : T Blk) (nx : Nat) : Option AState := List.casesOn (motive := fun _ => Option AState) todo
  (stepEnd fn tm N df kind ro cs H nx) fun it k => stepItem C it k fn tm N df kind ro cs H nx
def stepF (C : Cx) (fr : AFrame) (cs : List AFrame) (H : T Blk) (nx : Nat) : Option AState := AFrame.casesOn (motive := fun _ => Option AState) fr fun fn tm N todo df mode kind ro => AMode.casesOn (motive := fun _ => Option AState) mode
  (stepRun C fn tm N (norm todo) df kind ro cs H nx)
  (unwindA C fn tm N df .ret kind ro cs H nx)
  (fun v b => unwindA C fn tm N df (.pan v b) kind ro cs H nx)
def stepA (C : Cx) (s : AState) : Option AState := AState.casesOn (motive := fun _ => Option AState) s (fun fr cs H nx => stepF C fr cs H nx) fun _ _ _ => none
/-- As stepA; a run that has ended stays. -/
def stayA (C : Cx) (s : AState) : Option AState := AState.casesOn (motive := fun _ => Option AState) s (fun fr cs H nx => stepF C fr cs H nx) fun v H nx => some (.done v H nx)
def runAC (C : Cx) : Nat → AState → Option AState
  | 0, s => stayA C s
  | n + 1, s => match runAC C n s with
    | some s' => runAC C n s'
    | none => none
/-- Two to the n-th steps, or as far as they go. -/
def runA (C : Cx) (n : Nat) : AState → Option AState := Nat.rec (motive := fun _ => AState → Option AState) (fun s => stayA C s) (fun _ ih s => bnd (ih s) ih) n

end
end Go.Proofs.YtepkidlndboakaaGreatDoor.Sim
