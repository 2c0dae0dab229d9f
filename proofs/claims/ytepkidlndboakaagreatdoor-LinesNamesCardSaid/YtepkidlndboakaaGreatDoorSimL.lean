/-
  SIM, PART L. The relation between the abstract machine and the model's; its steps outside drawn regions.
-/
import Derived.Test.YtepkidlndboakaaGreatDoorSimK
namespace Go.Proofs.YtepkidlndboakaaGreatDoor.Sim
open Go.RowKit (Below)
noncomputable section

/-! ### Relations -/
def MR (η : Env) : AMode → FrameMode → Prop
  | .run, m => m = .run
  | .ret, m => m = .returning
  | .pan v b, m => ∃ x, m = .panicking [{ v := x, recovered := b }] ∧ VR η v x
theorem MR.mono {η η' : Env} (h : η.le η') : ∀ {a : AMode} {m : FrameMode}, MR η a m → MR η' a m
  | .run, _, k => k
  | .ret, _, k => k
  | .pan _ _, _, ⟨x, e, k⟩ => ⟨x, e, VR.mono h _ _ k⟩
def ROR (η : Env) (a : Option Nat) (o : Option Nat) : Prop := match a with
  | none => o = none
  | some l => ∃ m, η l = some m ∧ o = some m.B
theorem ROR.mono {η η' : Env} (h : η.le η') {a o : Option Nat} (k : ROR η a o) : ROR η' a o := by
  cases a with
  | none => exact k
  | some l => obtain ⟨m, e, k⟩ := k; exact ⟨m, h _ _ e, k⟩
def DRs (η : Env) : List ADef → List Deferred → Prop
  | [], ds => ds = []
  | a :: as, ds => ∃ d ds', ds = d :: ds' ∧ DR η a d ∧ DRs η as ds'
theorem DRs.mono {η η' : Env} (h : η.le η') : ∀ {as : List ADef} {ds : List Deferred}, DRs η as ds → DRs η' as ds
  | [], _, k => k
  | _ :: _, _, ⟨d, ds', e, k1, k2⟩ => ⟨d, ds', e, k1.mono h, k2.mono h⟩

/-- An order in which the operations that are not done may run. -/
inductive Lin (os : List Oper) : (Nat → Prop) → List Nat → Prop where
  | nil {D : Nat → Prop} : (∀ i, i < os.length → D i) → Lin os D []
  | cons {D : Nat → Prop} {i : Nat} {o : Oper} {L : List Nat} : os[i]? = some o → ¬ D i → (∀ e ∈ o.after, Region.binds .any e = true → D e.on) → Lin os (fun j => j = i ∨ D j) L → Lin os D (i :: L)
/-- A drawn region under way: D: what is done. -/
structure DrawR (P : Program) (R : Nat → Option Nat) (p : Nat) (η : Env) (ops : Array Oper) (d : Draw) (tm : T AV) (tmps : Array Value) (D : Nat → Prop) : Prop where
  ops : d.ops = ops.toList
  anc : ancs d.ops [] = some d.anc
  len : d.ops.length ≤ 4096
  grd : guardsOk d.ops d.ops = true
  dst : dstsOk tmps.size d.ops [] = true
  closed : ∀ i, D i → ∃ o, d.ops[i]? = some o ∧ ∀ e ∈ o.after, Region.binds .any e = true → D e.on
  acts : ∀ i, i ∈ d.todo ↔ ∃ o, d.ops[i]? = some o ∧ acting P o.op = true ∧ ¬ D i
  fin : ∀ i, bit d.fin i = true → D i
  dom : ∀ i, D i → ∃ v, d.V.get i = some v
  val : ∀ i v, d.V.get i = some v → D i → ∃ o, d.ops[i]? = some o ∧ ∀ t, o.dst = some t → ∃ x, tmps[t]? = some x ∧ VR η v x
  old : ∀ t v, tm.get t = some v → (∀ i o, d.ops[i]? = some o → o.dst = some t → ¬ D i) → ∃ x, tmps[t]? = some x ∧ VR η v x
  res : ∀ i o e, d.ops[i]? = some o → o.op = .alloc e → ¬ D i → o.guard = none ∧ ∃ b, d.V.get i = some (.ptr b 0) ∧ R b = some p
  resInj : ∀ i j o o' e e' b, i ≠ j → d.ops[i]? = some o → o.op = .alloc e → ¬ D i → d.ops[j]? = some o' → o'.op = .alloc e' → ¬ D j → d.V.get i = some (.ptr b 0) → d.V.get j ≠ some (.ptr b 0)
theorem DrawR.mono {P : Program} {R R' : Nat → Option Nat} {p : Nat} {η η' : Env} {ops : Array Oper} {d : Draw} {tm : T AV} {tmps : Array Value} {D : Nat → Prop} (h : DrawR P R p η ops d tm tmps D)
    (hle : η.le η') (hR : ∀ b, R b = some p → R' b = some p) : DrawR P R' p η' ops d tm tmps D :=
  ⟨h.ops, h.anc, h.len, h.grd, h.dst, h.closed, h.acts, h.fin, h.dom, fun i v hv hD => let ⟨o, ho, k⟩ := h.val i v hv hD; ⟨o, ho, fun t ht => let ⟨x, hx, hr⟩ := k t ht; ⟨x, hx, VR.mono hle _ _ hr⟩⟩,
    fun t v hv k => let ⟨x, hx, hr⟩ := h.old t v hv k; ⟨x, hx, VR.mono hle _ _ hr⟩,
    fun i o e ho he hD => let ⟨k1, b, k2, k3⟩ := h.res i o e ho he hD; ⟨k1, b, k2, hR b k3⟩, h.resInj⟩

def IR (η : Env) : AItem → Item → Prop
  | .code c, it => it = .code c
  | .inBlock id, it => it = .inBlock id
  | .inLoop b, it => it = .inLoop b
  | .reg ops l, it => ∃ i, it = .inRegion ops (List.range' i l.length) ∧ ops.toList.drop i = l
  | .inRange l, it => ∃ m, η l = some m ∧ it = .inRangeFunc m.B
  | .endRange l, it => ∃ m, η l = some m ∧ it = .endRangeFunc m.B
  | .begin, it => it = .beginRound
  | .draw _ _, _ => False
  | .drawCall _ _ _, _ => False
theorem IR.mono {η η' : Env} (h : η.le η') : ∀ {a : AItem} {it : Item}, IR η a it → IR η' a it
  | .code _, _, k | .inBlock _, _, k | .inLoop _, _, k | .reg _ _, _, k | .begin, _, k => k
  | .inRange _, _, ⟨m, e, k⟩ => ⟨m, h _ _ e, k⟩
  | .endRange _, _, ⟨m, e, k⟩ => ⟨m, h _ _ e, k⟩
def IRs (η : Env) : List AItem → List Item → Prop
  | [], its => its = []
  | a :: as, its => ∃ it its', its = it :: its' ∧ IR η a it ∧ IRs η as its'
theorem IRs.mono {η η' : Env} (h : η.le η') : ∀ {as : List AItem} {its : List Item}, IRs η as its → IRs η' as its
  | [], _, k => k
  | _ :: _, _, ⟨it, its', e, k1, k2⟩ => ⟨it, its', e, k1.mono h, k2.mono h⟩

/-- What a running frame is about to do, and its temporaries. -/
def TodoR (P : Program) (R : Nat → Option Nat) (p : Nat) (η : Env) (tm : T AV) (todo : List AItem) (tmps : Array Value) (its : List Item) : Prop := match todo with
  | .draw ops d :: k => ∃ D L ks, its = .inRegion ops L :: ks ∧ IRs η k ks ∧ DrawR P R p η ops d tm tmps D ∧ Lin d.ops D L
  | .drawCall ops d a :: k => ∃ D L ks rest, its = .inRegion ops (a :: L) :: ks ∧ IRs η k ks ∧ DrawR P R p η ops d tm tmps D ∧ Lin d.ops D (a :: L) ∧ d.todo = a :: rest ∧ behind d.anc a rest = true
  | todo => TR η tm tmps ∧ IRs η todo its
theorem TodoR.of {P : Program} {R : Nat → Option Nat} {p : Nat} {η : Env} {tm : T AV} {todo : List AItem} {tmps : Array Value} {its : List Item} (h1 : TR η tm tmps) (h2 : IRs η todo its) : TodoR P R p η tm todo tmps its := by
  cases todo with
  | nil => exact ⟨h1, h2⟩
  | cons it k =>
    cases it <;> first | exact ⟨h1, h2⟩ | (obtain ⟨_, _, _, h, _⟩ := h2; exact h.elim)
theorem TodoR.mono {P : Program} {R R' : Nat → Option Nat} {p : Nat} {η η' : Env} {tm : T AV} {todo : List AItem} {tmps : Array Value} {its : List Item} (h : TodoR P R p η tm todo tmps its)
    (hle : η.le η') (hR : ∀ b, R b = some p → R' b = some p) : TodoR P R' p η' tm todo tmps its := by
  unfold TodoR at h ⊢
  split at h
  · obtain ⟨D, L, ks, k1, k2, k3, k4⟩ := h
    exact ⟨D, L, ks, k1, k2.mono hle, k3.mono hle hR, k4⟩
  · obtain ⟨D, L, ks, rest, k1, k2, k3, k4⟩ := h
    exact ⟨D, L, ks, rest, k1, k2.mono hle, k3.mono hle hR, k4⟩
  · exact ⟨h.1.mono hle, h.2.mono hle⟩
structure FR (P : Program) (R : Nat → Option Nat) (p : Nat) (η : Env) (a : AFrame) (f : Frame) : Prop where
  fn : f.fn = a.fn
  size : f.tmps.size = a.N
  df : DRs η a.df f.defers
  mode : MR η a.mode f.mode
  kind : f.kind = if a.kind then .deferred else .normal
  ro : ROR η a.ro f.roundOf
  run : a.mode = .run → TodoR P R p η a.tm a.todo f.tmps f.todo
  off : a.mode ≠ .run → TR η a.tm f.tmps
theorem FR.mono {P : Program} {R R' : Nat → Option Nat} {p : Nat} {η η' : Env} {a : AFrame} {f : Frame} (h : FR P R p η a f) (hle : η.le η') (hR : ∀ b, R b = some p → R' b = some p) : FR P R' p η' a f :=
  ⟨h.fn, h.size, h.df.mono hle, h.mode.mono hle, h.kind, h.ro.mono hle, fun e => (h.run e).mono hle hR, fun e => (h.off e).mono hle⟩
def FRs (P : Program) (R : Nat → Option Nat) (η : Env) : List AFrame → List Frame → Prop
  | [], fs => fs = []
  | a :: as, fs => ∃ f fs', fs = f :: fs' ∧ FR P R as.length η a f ∧ FRs P R η as fs'
theorem FRs.mono {P : Program} {R R' : Nat → Option Nat} {η η' : Env} (hle : η.le η') : ∀ {as : List AFrame} {fs : List Frame}, FRs P R η as fs → (∀ q b, q < as.length → R b = some q → R' b = some q) → FRs P R' η' as fs
  | [], _, k, _ => k
  | _ :: _, _, ⟨f, fs', e, k1, k2⟩, hR => ⟨f, fs', e, k1.mono hle fun b hb => hR _ b (Nat.lt_succ_self _) hb, k2.mono hle fun q b hq hb => hR q b (Nat.lt_succ_of_lt hq) hb⟩
def lastFn : Nat → List AFrame → Nat
  | n, [] => n
  | _, c :: cs => lastFn c.fn cs
/-- An abstract state stands for a machine: the call began in the world W, at function f0, over the frames cs0. -/
def SR (C : Cx) (W : World) (f0 : FuncId) (cs0 : List Frame) : AState → Machine → Prop
  | .go fr cs H nx, m => ∃ η R f fs w, m = lone f (fs ++ cs0) w ∧ FR C.P R cs.length η fr f ∧ FRs C.P R η cs fs ∧ HR C.P ⟨W, R⟩ η H nx w ∧ GR η C.ng ∧ lastFn fr.fn cs = f0
  | .done v H nx, m => ∃ η R f x w, m = lone f cs0 w ∧ f.leaving C.P w (.returned x) ∧ f.fn = f0 ∧ VR η v x ∧ HR C.P ⟨W, R⟩ η H nx w
def Goes (C : Cx) (W : World) (f0 : FuncId) (cs0 : List Frame) (m : Machine) (s : AState) : Prop := ∃ m', Steps C.P m m' ∧ SR C W f0 cs0 s m'

/-! ### Running frames -/
def mkF (fn : FuncId) (tmps : Array Value) (its : List Item) (ds : List Deferred) (kind : CallKind) (ro : Option Nat) : Frame :=
  { fn, tmps, todo := its, defers := ds, mode := .run, kind, roundOf := ro }
theorem mkF_eq {f : Frame} (h : f.mode = .run) : f = mkF f.fn f.tmps f.todo f.defers f.kind f.roundOf := by
  obtain ⟨fn, tmps, todo, defers, mode, kind, ro⟩ := f
  simp only at h
  subst h; rfl
theorem mkF_atR (fn : FuncId) (tmps : Array Value) (its : List Item) (ds : List Deferred) (kind : CallKind) (ro : Option Nat) :
    mkF fn tmps its ds kind ro = (mkF fn tmps its ds kind ro).atR ⟨tmps, ds⟩ its := rfl

section
variable {P : Program} {fn : FuncId} {tmps : Array Value} {ds : List Deferred} {kind : CallKind} {ro : Option Nat} {cs : List Frame} {w : World} {η : Env}

variable {ks : List Item} {ops : Array Oper}
theorem sk_skip : step P (lone (mkF fn tmps (.code .skip :: ks) ds kind ro) cs w) = .next (lone (mkF fn tmps ks ds kind ro) cs w) := stepR_skip (b := mkF fn tmps [] ds kind ro) (a := ⟨tmps, ds⟩)
theorem sk_label {l : Nat} : step P (lone (mkF fn tmps (.code (.label l) :: ks) ds kind ro) cs w) = .next (lone (mkF fn tmps ks ds kind ro) cs w) := stepR_label (b := mkF fn tmps [] ds kind ro) (a := ⟨tmps, ds⟩)
theorem sk_inBlock {id : Nat} : step P (lone (mkF fn tmps (.inBlock id :: ks) ds kind ro) cs w) = .next (lone (mkF fn tmps ks ds kind ro) cs w) := stepR_inBlock (b := mkF fn tmps [] ds kind ro) (a := ⟨tmps, ds⟩)
theorem sk_seq {x y : Code} : step P (lone (mkF fn tmps (.code (.seq x y) :: ks) ds kind ro) cs w) = .next (lone (mkF fn tmps (.code x :: .code y :: ks) ds kind ro) cs w) := stepR_seq (b := mkF fn tmps [] ds kind ro) (a := ⟨tmps, ds⟩)
theorem sk_block {id : Nat} {x : Code} : step P (lone (mkF fn tmps (.code (.block id x) :: ks) ds kind ro) cs w) = .next (lone (mkF fn tmps (.code x :: .inBlock id :: ks) ds kind ro) cs w) := stepR_block (b := mkF fn tmps [] ds kind ro) (a := ⟨tmps, ds⟩)
theorem sk_loop {x : Code} : step P (lone (mkF fn tmps (.code (.loop x) :: ks) ds kind ro) cs w) = .next (lone (mkF fn tmps (.code x :: .inLoop x :: ks) ds kind ro) cs w) := stepR_loop (b := mkF fn tmps [] ds kind ro) (a := ⟨tmps, ds⟩)
theorem sk_inLoop {x : Code} : step P (lone (mkF fn tmps (.inLoop x :: ks) ds kind ro) cs w) = .next (lone (mkF fn tmps (.code x :: .inLoop x :: ks) ds kind ro) cs w) := stepR_inLoop (b := mkF fn tmps [] ds kind ro) (a := ⟨tmps, ds⟩)
theorem sk_region {id : Nat} : step P (lone (mkF fn tmps (.code (.region id ops false) :: ks) ds kind ro) cs w) = .next (lone (mkF fn tmps (.inRegion ops (List.range ops.size) :: ks) ds kind ro) cs w) := stepR_region (b := mkF fn tmps [] ds kind ro) (a := ⟨tmps, ds⟩)
theorem sk_region_draw {id : Nat} : step P (lone (mkF fn tmps (.code (.region id ops true) :: ks) ds kind ro) cs w) = .next (lone (mkF fn tmps (.inRegion ops (Region.schedule (P.follows .mixedOrders) ops (w.tape w.drawn (.order fn id))) :: ks) ds kind ro) cs { w with drawn := w.drawn + 1 }) := stepR_region_draw (b := mkF fn tmps [] ds kind ro) (a := ⟨tmps, ds⟩)
theorem sk_region_end : step P (lone (mkF fn tmps (.inRegion ops [] :: ks) ds kind ro) cs w) = .next (lone (mkF fn tmps ks ds kind ro) cs w) := stepR_region_end (b := mkF fn tmps [] ds kind ro) (a := ⟨tmps, ds⟩)
theorem sk_cond {c : Operand} {x y : Code} {t : Bool} (h : (⟨tmps, ds⟩ : Act).eval c = .bool t) : step P (lone (mkF fn tmps (.code (.cond c x y) :: ks) ds kind ro) cs w) = .next (lone (mkF fn tmps (.code (if t then x else y) :: ks) ds kind ro) cs w) := stepR_cond (b := mkF fn tmps [] ds kind ro) (a := ⟨tmps, ds⟩) h
theorem sk_exit {id : Nat} {ks' : List Item} (h : exitTo id ks = some ks') : step P (lone (mkF fn tmps (.code (.exit id) :: ks) ds kind ro) cs w) = .next (lone (mkF fn tmps ks' ds kind ro) cs w) := stepR_exit (b := mkF fn tmps [] ds kind ro) (a := ⟨tmps, ds⟩) h
theorem sk_ret : step P (lone (mkF fn tmps (.code .ret :: ks) ds kind none) cs w) = .next (lone { mkF fn tmps (.code .ret :: ks) ds kind none with mode := .returning } cs w) := stepR_ret (b := mkF fn tmps [] ds kind none) (a := ⟨tmps, ds⟩) rfl
theorem sk_end : step P (lone (mkF fn tmps [] ds kind none) cs w) = .next (lone { mkF fn tmps [] ds kind none with mode := .returning } cs w) := stepR_end (b := mkF fn tmps [] ds kind none) (a := ⟨tmps, ds⟩) rfl
theorem sk_op_skip {i : Nat} {L : List Nat} (h : ((ops[i]?).map (Region.wanted · (yielded ops tmps))).getD false = false) :
    step P (lone (mkF fn tmps (.inRegion ops (i :: L) :: ks) ds kind ro) cs w) = .next (lone ((mkF fn tmps (.inRegion ops (i :: L) :: ks) ds kind ro).finish undef) cs w) := by
  have := stepR_op_skip (P := P) (b := mkF fn tmps [] ds kind ro) (a := ⟨tmps, ds⟩) (k := ks) (cs := cs) (w := w) (rest := L) h
  rw [← Frame.finish_atR] at this
  exact this
theorem sk_op {i : Nat} {L : List Nat} {o : Oper} (ho : ops[i]? = some o) (hw : Region.wanted o (yielded ops tmps) = true) :
    stepG P true { frame := mkF fn tmps (.inRegion ops (i :: L) :: ks) ds kind ro, callers := cs, status := .running, dying := none } w =
      stepG.apply P true (mkF fn tmps (.inRegion ops (i :: L) :: ks) ds kind ro) cs none (o.semAt ro (⟨tmps, ds⟩ : Act).eval) w :=
  stepGR_op (b := mkF fn tmps [] ds kind ro) (a := ⟨tmps, ds⟩) ho hw
theorem finish_op {i : Nat} {L : List Nat} {o : Oper} (ho : ops[i]? = some o) (v : Value) :
    (mkF fn tmps (.inRegion ops (i :: L) :: ks) ds kind ro).finish v = mkF fn ((⟨tmps, ds⟩ : Act).put o.dst v).tmps (.inRegion ops L :: ks) ds kind ro := by
  have := Frame.finish_atR (mkF fn tmps [] ds kind ro) ⟨tmps, ds⟩ ops i L ks v
  rw [ho] at this
  refine (this.trans ?_)
  cases hd : o.dst <;> simp [Act.put, hd, Frame.atR, mkF]

theorem unseq_steps (c : Code) : ∀ {k : List AItem} {ks : List Item}, IRs η k ks → ∃ its, IRs η (unseq c k) its ∧ Steps P (lone (mkF fn tmps (.code c :: ks) ds kind ro) cs w) (lone (mkF fn tmps its ds kind ro) cs w) := by
  induction c with
  | skip => exact fun {k ks} h => ⟨ks, h, .one sk_skip⟩
  | region id ops draw =>
    intro k ks h
    cases draw with
    | true => exact ⟨_, ⟨_, _, rfl, rfl, h⟩, .refl _ _⟩
    | false =>
      refine ⟨.inRegion ops (List.range ops.size) :: ks, ⟨_, _, rfl, ⟨0, ?_, by simp⟩, h⟩, .one sk_region⟩
      rw [List.range_eq_range', Array.length_toList]
  | seq a b iha ihb =>
    intro k ks h
    obtain ⟨its, k1, k2⟩ := iha (k := .code b :: k) (ks := .code b :: ks) ⟨_, _, rfl, rfl, h⟩
    exact ⟨its, k1, .head sk_seq k2⟩
  | block id c ih =>
    intro k ks h
    obtain ⟨its, k1, k2⟩ := ih (k := .inBlock id :: k) (ks := .inBlock id :: ks) ⟨_, _, rfl, rfl, h⟩
    exact ⟨its, k1, .head sk_block k2⟩
  | loop c ih =>
    intro k ks h
    obtain ⟨its, k1, k2⟩ := ih (k := .inLoop c :: k) (ks := .inLoop c :: ks) ⟨_, _, rfl, rfl, h⟩
    exact ⟨its, k1, .head sk_loop k2⟩
  | _ => exact fun {k ks} h => ⟨_, ⟨_, _, rfl, rfl, h⟩, .refl _ _⟩
theorem norm_steps : ∀ {k : List AItem} {ks : List Item}, IRs η k ks → ∃ its, IRs η (norm k) its ∧ Steps P (lone (mkF fn tmps ks ds kind ro) cs w) (lone (mkF fn tmps its ds kind ro) cs w)
  | [], ks, h => ⟨ks, h, .refl _ _⟩
  | .code c :: _, _, ⟨_, _, rfl, rfl, h⟩ => unseq_steps c h
  | .inBlock id :: _, _, ⟨_, _, rfl, rfl, h⟩ => let ⟨its, k1, k2⟩ := norm_steps h; ⟨its, k1, .head sk_inBlock k2⟩
  | .inLoop c :: k, _, ⟨_, ks, rfl, rfl, h⟩ => let ⟨its, k1, k2⟩ := unseq_steps c (k := .inLoop c :: k) (ks := .inLoop c :: ks) ⟨_, _, rfl, rfl, h⟩; ⟨its, k1, .head sk_inLoop k2⟩
  | .reg ops [] :: _, _, ⟨_, _, rfl, ⟨i, rfl, _⟩, h⟩ => let ⟨its, k1, k2⟩ := norm_steps h; ⟨its, k1, .head sk_region_end k2⟩
  | .reg _ (_ :: _) :: _, _, ⟨_, _, rfl, hi, h⟩ => ⟨_, ⟨_, _, rfl, hi, h⟩, .refl _ _⟩
  | .inRange _ :: _, _, h => ⟨_, h, .refl _ _⟩
  | .endRange _ :: _, _, h => ⟨_, h, .refl _ _⟩
  | .begin :: _, _, h => ⟨_, h, .refl _ _⟩
  | .draw _ _ :: _, _, ⟨_, _, _, h, _⟩ => h.elim
  | .drawCall _ _ _ :: _, _, ⟨_, _, _, h, _⟩ => h.elim
theorem exitA_spec {id : Nat} : ∀ {k : List AItem} {ks : List Item} {k' : List AItem}, IRs η k ks → exitA id k = some k' → ∃ ks', exitTo id ks = some ks' ∧ IRs η k' ks'
  | [], _, _, _, e => by cases e
  | .inBlock j :: k, _, k', ⟨_, ks, rfl, rfl, h⟩, e => by
    have e' : Bool.casesOn (motive := fun _ => Option (List AItem)) (Nat.beq j id) (exitA id k) (some k) = some k' := e
    cases hb : Nat.beq j id with
    | true =>
      rw [hb] at e'; cases e'
      have : j = id := Nat.eq_of_beq_eq_true hb
      subst this
      exact ⟨ks, by simp [exitTo], h⟩
    | false =>
      rw [hb] at e'
      obtain ⟨ks', k1, k2⟩ := exitA_spec h e'
      have hne : j ≠ id := fun e => by subst e; simp at hb
      exact ⟨ks', by simp [exitTo, hne, k1], k2⟩
  | .code c :: k, _, k', ⟨_, ks, rfl, rfl, h⟩, e => let ⟨ks', k1, k2⟩ := exitA_spec (id := id) h e; ⟨ks', k1, k2⟩
  | .inLoop c :: k, _, k', ⟨_, ks, rfl, rfl, h⟩, e => let ⟨ks', k1, k2⟩ := exitA_spec (id := id) h e; ⟨ks', k1, k2⟩
  | .reg _ _ :: k, _, k', ⟨_, ks, rfl, ⟨_, rfl, _⟩, h⟩, e => let ⟨ks', k1, k2⟩ := exitA_spec (id := id) h e; ⟨ks', k1, k2⟩
  | .inRange l :: k, _, k', ⟨_, ks, rfl, ⟨_, _, rfl⟩, h⟩, e => let ⟨ks', k1, k2⟩ := exitA_spec (id := id) h e; ⟨ks', k1, k2⟩
  | .endRange l :: k, _, k', ⟨_, ks, rfl, ⟨_, _, rfl⟩, h⟩, e => let ⟨ks', k1, k2⟩ := exitA_spec (id := id) h e; ⟨ks', k1, k2⟩
  | .begin :: k, _, k', ⟨_, ks, rfl, rfl, h⟩, e => let ⟨ks', k1, k2⟩ := exitA_spec (id := id) h e; ⟨ks', k1, k2⟩
  | .draw _ _ :: k, _, _, ⟨_, _, _, h, _⟩, _ => h.elim
  | .drawCall _ _ _ :: k, _, _, ⟨_, _, _, h, _⟩, _ => h.elim

/-! ### What an operation's answer does to a frame -/
variable {f : Frame} {s : Sem Next} {w' : World}
theorem step_val {v : Value} (hs : stepG P true { frame := f, callers := cs, status := .running, dying := none } w = stepG.apply P true f cs none s w) (hr : s.run P w = .ok (.value v) w') :
    step P (lone f cs w) = .next (lone (f.finish v) cs w') := step_lone_go (by rw [hs]; simp [stepG.apply, hr])
theorem step_skip' (hs : stepG P true { frame := f, callers := cs, status := .running, dying := none } w = stepG.apply P true f cs none s w) (hr : s.run P w = .ok .skip w') :
    step P (lone f cs w) = .next (lone (f.finish undef) cs w') := step_lone_go (by rw [hs]; simp [stepG.apply, hr])
theorem step_defer' {d : Deferred} (hs : stepG P true { frame := f, callers := cs, status := .running, dying := none } w = stepG.apply P true f cs none s w) (hr : s.run P w = .ok (.defer d) w') :
    step P (lone f cs w) = .next (lone (({ f with defers := d :: f.defers } : Frame).finish undef) cs w') := step_lone_go (by rw [hs]; simp [stepG.apply, hr])
theorem step_panic' {v : Value} (hs : stepG P true { frame := f, callers := cs, status := .running, dying := none } w = stepG.apply P true f cs none s w) (hr : s.run P w = .halt (.panic v) w') :
    step P (lone f cs w) = .next (lone (f.raise [{ v, recovered := false }]) cs w') := step_lone_go (by rw [hs]; simp [stepG.apply, hr])
theorem step_enter' {g : FuncId} {xs : Array Value} {ops : Array Oper} {L : List Nat} {ks : List Item} (ht : f.todo = .inRegion ops L :: ks)
    (hs : stepG P true { frame := f, callers := cs, status := .running, dying := none } w = stepG.apply P true f cs none s w) (hr : s.run P w = .ok (.enter g xs) w') :
    step P (lone f cs w) = .next (lone (Frame.enter P g xs .normal) (f :: cs) w') := step_lone_go (by rw [hs]; simp [stepG.apply, hr, ht])
theorem step_round' {l : Nat} {g : FuncId} {xs : Array Value} {x y : Code} (hs : stepG P true { frame := f, callers := cs, status := .running, dying := none } w = stepG.apply P true f cs none s w)
    (hr : s.run P w = .ok (.round l g xs x y) w') :
    step P (lone f cs w) = .next (lone (Frame.round l g xs x y .normal) (f :: cs) w') := step_lone_go (by rw [hs]; simp [stepG.apply, hr])
theorem step_recover_some {v : Value} {cs' : List Frame} (ho : f.roundOf = none) (hs : stepG P true { frame := f, callers := cs, status := .running, dying := none } w = stepG.apply P true f cs none s w)
    (hr : s.run P w = .ok .recover w') (ht : tryRecover f cs = some (v, cs')) : step P (lone f cs w) = .next (lone (f.finish v) cs' w') := step_lone_go (by rw [hs]; simp [stepG.apply, hr, ho, ht])
theorem step_recover_none (ho : f.roundOf = none) (hs : stepG P true { frame := f, callers := cs, status := .running, dying := none } w = stepG.apply P true f cs none s w)
    (hr : s.run P w = .ok .recover w') (ht : tryRecover f cs = none) : step P (lone f cs w) = .next (lone (f.finish .nilIface) cs w') := step_lone_go (by rw [hs]; simp [stepG.apply, hr, ho, ht])

end
end
end Go.Proofs.YtepkidlndboakaaGreatDoor.Sim
