/-
  SIM, PART K. What one operation of the abstract machine does is done by the model.
-/
import Derived.Test.YtepkidlndboakaaGreatDoorSimJ
namespace Go.Proofs.YtepkidlndboakaaGreatDoor.Sim
open Go.RowKit (Below)
noncomputable section

/-- A deferred call. -/
def DR (η : Env) : ADef → Deferred → Prop
  | .fn f captured args, d => ∃ cs as, d = { target := .fn (.func f) cs, args := as } ∧ VRs η captured cs.toList ∧ VRs η args as.toList
  | .collected b, d => ∃ l, η b = some l ∧ d = { target := .collected l.B, args := #[] }
theorem DR.mono {η η' : Env} (h : η.le η') : ∀ {a : ADef} {d : Deferred}, DR η a d → DR η' a d
  | .fn _ _ _, _, ⟨cs, as, e, h1, h2⟩ => ⟨cs, as, e, VRs.mono h _ _ h1, VRs.mono h _ _ h2⟩
  | .collected _, _, ⟨l, hl, e⟩ => ⟨l, h _ _ hl, e⟩

def Out.ok (P : Program) (W0 : Base) (η : Env) (w : World) (s : Sem Next) : Out → Prop
  | .val v H' nx' => (ARes.val v H' nx').ok P W0 η w s
  | .skip H' nx' => (ARes.skip H' nx').ok P W0 η w s
  | .enter f args => ∃ xs : Array Value, s.run P w = .ok (.enter f xs) w ∧ VRs η args xs.toList
  | .round l args => ∃ m xs, η l = some m ∧ s.run P w = (Instr.yield m.B xs).run P w ∧ VRs η args xs.toList
  | .defer d => ∃ dd, s.run P w = .ok (.defer dd) w ∧ DR η d dd
  | .recover => s.run P w = .ok .recover w
  | .panic v => ∃ x, s.run P w = .halt (.panic x) w ∧ VR η v x

/-- What is said of the program is so. -/
structure Cx.Good (C : Cx) : Prop where
  fn : ∀ f F, C.Fn.get f = some F → C.P.funcs[f]? = some F ∧ (F.name == "runtime.NumGoroutine") = false
  ext : ∀ f x F, C.E.get f = some x → C.Fn.get f = some F → Extern.findNext F = none ∧ Extern.find F = some (x.sem F)
  sm : ∀ f args, C.sm f args = none
  mixed : C.P.follows .mixedOrders = true

section
variable {C : Cx} {W0 : Base} {η : Env} {H : T Blk} {nx : Nat} {w : World} {A : T AV} {a : Act}

theorem Out.ok.congr {P : Program} {s s' : Sem Next} {r : Out} (h : r.ok P W0 η w s) (e : s.run P w = s'.run P w) : r.ok P W0 η w s' := by
  cases r with
  | val v H nx => obtain ⟨η', w', x, k1, k2, k3⟩ := h; exact ⟨η', w', x, k1, by rw [← e]; exact k2, k3⟩
  | skip H nx => obtain ⟨η', w', k1, k2, k3⟩ := h; exact ⟨η', w', k1, by rw [← e]; exact k2, k3⟩
  | enter f args => obtain ⟨xs, k1, k2⟩ := h; exact ⟨xs, by rw [← e]; exact k1, k2⟩
  | round l args => obtain ⟨m, xs, k0, k1, k2⟩ := h; exact ⟨m, xs, k0, by rw [← e]; exact k1, k2⟩
  | defer d => obtain ⟨dd, k1, k2⟩ := h; exact ⟨dd, by rw [← e]; exact k1, k2⟩
  | recover => show s'.run P w = _; rw [← e]; exact h
  | panic v => obtain ⟨x, k1, k2⟩ := h; exact ⟨x, by rw [← e]; exact k1, k2⟩
theorem Out.of_some {o : Option ARes} {r : Out} (h : Out.of o = some r) : (∃ v H nx, o = some (.val v H nx) ∧ r = .val v H nx) ∨ ∃ H nx, o = some (.skip H nx) ∧ r = .skip H nx := by
  unfold Out.of at h
  split at h
  · cases h; exact .inl ⟨_, _, _, rfl, rfl⟩
  · cases h; exact .inr ⟨_, _, rfl, rfl⟩
  · cases h
theorem Out.of_ok {P : Program} {o : Option ARes} {r : Out} {s : Sem Next} (h : Out.of o = some r) (hk : ∀ q, o = some q → q.ok P W0 η w s) : r.ok P W0 η w s := by
  rcases Out.of_some h with ⟨v, H, nx, h1, rfl⟩ | ⟨H, nx, h1, rfl⟩
  · exact hk _ h1
  · exact hk _ h1
theorem ok_of_val {P : Program} {q : ARes} {s : Sem Value} (h : ∃ v H' nx', q = .val v H' nx' ∧ VOK P W0 η w s v H' nx') : q.ok P W0 η w (do pure (.value (← s))) := by
  obtain ⟨v, H', nx', rfl, η', w', x, h1, h2, h3, h4⟩ := h
  exact ⟨η', w', x, h1, by simp only [Sem.run_bind, h2, Result.andThen_ok, Sem.run_pure], h3, h4⟩
theorem lift_some {o : Option AV} {r : Out} (h : lift o H nx = some r) : ∃ v, o = some v ∧ r = .val v H nx := by
  cases o with
  | none => cases h
  | some v => cases h; exact ⟨v, rfl, rfl⟩
theorem lift_ok {P : Program} {ng : Nat} (hh : HR P W0 η H nx w) (hg : GR η ng) (ht : TR η A a.tmps) {o : Oper} {q : Option AV} {r : Out} (h : lift q H nx = some r)
    (hq : ∀ v, q = some v → quiet P ng A H o.op = some v) : r.ok P W0 η w (execOp a.eval o) := by
  obtain ⟨v, h1, rfl⟩ := lift_some h
  obtain ⟨x, h2, h3⟩ := quiet_run hh hg ht (hq v h1)
  exact ⟨η, w, x, Env.le_refl _, h2, h3, hh⟩

theorem callFunc_run {P : Program} {f : FuncId} {F : Func} {xs : Array Value} (hf : P.funcs[f]? = some F) (hn : (F.name == "runtime.NumGoroutine") = false) {c : Code} (hb : F.body = some c) :
    (callFunc f xs).run P w = .ok (.enter f xs) w := by
  simp only [callFunc, Sem.run_bind, run_program, Result.andThen_ok, hf, hn, hb, Bool.false_eq_true, if_false, Option.isNone_some, Sem.run_pure]
theorem callFunc_ext {P : Program} {f : FuncId} {F : Func} {xs : Array Value} (hf : P.funcs[f]? = some F) (hn : (F.name == "runtime.NumGoroutine") = false) (hb : F.body = none)
    (h1 : Extern.findNext F = none) {e : Array Value → Sem Value} (h2 : Extern.find F = some e) :
    (callFunc f xs).run P w = (do pure (.value (← e xs)) : Sem Next).run P w := by
  simp only [callFunc, Sem.run_bind, run_program, Result.andThen_ok, hf, hn, hb, Bool.false_eq_true, if_false, Option.isNone_none, if_true, run_mark, h1, h2]
theorem HR.callF (hG : C.Good) (h : HR C.P W0 η H nx w) {f : Nat} {args : List AV} {xs : Array Value} {r : Out} (hr : Sim.callF C.Fn C.E C.P H nx f args = some r) (hx : VRs η args xs.toList) :
    r.ok C.P W0 η w (callFunc f xs) := by
  unfold Sim.callF at hr
  split at hr
  · rename_i F hF
    obtain ⟨hf, hn⟩ := hG.fn f F hF
    split at hr
    · rename_i c hb; cases hr
      exact ⟨xs, callFunc_run hf hn hb, hx⟩
    · rename_i hb
      split at hr
      · rename_i x hE
        obtain ⟨h1, h2⟩ := hG.ext f x F hE hF
        rcases Out.of_some hr with ⟨v, H', nx', h3, rfl⟩ | ⟨H', nx', h3, rfl⟩
        · obtain ⟨v', H'', nx'', e, η', w', y, h4, h5, h6, h7⟩ := h.aExt h3 hx
          cases e
          exact ⟨η', w', y, h4, by rw [callFunc_ext hf hn hb h1 h2]; simp only [Array.toArray_toList] at h5; simp only [Sem.run_bind, h5, Result.andThen_ok, Sem.run_pure], h6, h7⟩
        · obtain ⟨v', H'', nx'', e, _⟩ := h.aExt h3 hx
          cases e
      · cases hr
  · cases hr

theorem findM_spec (name : String) : ∀ l : List Method, findM name l = l.find? (·.name == name)
  | [] => rfl
  | m :: l => by
    rw [findM, List.find?_cons, findM_spec name l]
    cases m.name == name <;> rfl
theorem methodA_run {P : Program} {t : Nat} {name : String} {f : Nat} {v : Value} (h : methodA P t name = some f) {n : Nat} : (method (n + 1) t v name).run P w = .ok (f, v) w := by
  unfold methodA at h
  split at h
  · rename_i i hi
    split at h
    · rename_i m hm
      split at h
      · rename_i hp
        split at h
        · rename_i f' pr hf
          rw [findM_spec] at hm
          have hm' : i.methods.find? (·.name == name) = some m := by rw [← Array.find?_toList]; exact hm
          have hu : ∀ d, P.underlying t = some d → (underlying t).run P w = .ok d w := fun d hd => run_under hd
          split at h
          · rename_i e hd
            cases pr <;> simp only [cond_true, cond_false] at h
            · cases h
            · cases h
              simp only [method, Sem.run_bind, run_info hi, Result.andThen_ok, hm', hp, follow, Sem.run_pure, hf, receiverAt, hu _ hd, Place.get]
          · rename_i d hnd hd
            cases pr <;> simp only [cond_true, cond_false] at h
            · cases h
              have : (receiverAt t (.val v) false (if m.path.isEmpty then some ((name.splitOn ".").getLastD name) else none)).run P w = .ok v w := by
                simp only [receiverAt, Sem.run_bind, hu _ hd, Result.andThen_ok]
                cases d <;> first | rfl | exact absurd rfl (hnd _)
              simp only [method, Sem.run_bind, run_info hi, Result.andThen_ok, hm', hp, follow, Sem.run_pure, hf, this]
            · cases h
          · cases h
        · cases h
      · cases h
    · cases h
  · cases h


theorem made_depth : ∃ n, Made.depth = n + 1 := ⟨Made.depth - 1, by decide⟩
theorem HR.oValue (hG : C.Good) (h : HR C.P W0 η H nx w) (hg : GR η C.ng) (ht : TR η A a.tmps) {f : Operand} {args : Array Operand} {argTypes : Array TypeId} {t : TypeId} {r : Out}
    (hr : Sim.oValue C.Fn C.E C.P C.ng A H nx f args.toList = some r) :
    r.ok C.P W0 η w (do let d ← resolve a.eval ⟨.value f, args, argTypes⟩ t; invoke d.target d.args) := by
  unfold Sim.oValue at hr
  split at hr
  · rename_i fi first captured hf
    have h1 := opv_VR hg ht hf
    simp only [VR] at h1
    obtain ⟨fs, cs, e1, e2, e3⟩ := h1
    split at hr
    · rename_i vs hvs
      have h2 := opvs_VRs hg ht hvs
      have h3 : VRs η (first ++ vs ++ captured) (fs ++ args.map a.eval ++ cs).toList := by
        simp only [Array.toList_append, Array.toList_map]
        exact (e2.append h2).append e3
      have := h.callF hG hr h3
      have e : (do let d ← resolve a.eval ⟨.value f, args, argTypes⟩ t; invoke d.target d.args) = callFunc fi (fs ++ args.map a.eval ++ cs) := by
        simp only [resolve, e1, Deferred.ofValue]; rfl
      rw [e]; exact this
    · cases hr
  · rename_i l hf
    have h1 := opv_VR hg ht hf
    simp only [VR] at h1
    obtain ⟨m, e1, e2⟩ := h1
    split at hr
    · rename_i vs hvs; cases hr
      have h2 := opvs_VRs hg ht hvs
      refine ⟨m, #[] ++ args.map a.eval, e1, ?_, by simpa using h2⟩
      simp only [resolve, e2, Deferred.ofValue]; rfl
    · cases hr
  · cases hr
theorem HR.oInvoke (hG : C.Good) (h : HR C.P W0 η H nx w) (hg : GR η C.ng) (ht : TR η A a.tmps) {rc : Operand} {name : String} {args : Array Operand} {argTypes : Array TypeId} {t : TypeId} {r : Out}
    (hr : Sim.oInvoke C.Fn C.E C.P C.ng A H nx rc name args.toList = some r) :
    r.ok C.P W0 η w (do let d ← resolve a.eval ⟨.invoke rc name, args, argTypes⟩ t; invoke d.target d.args) := by
  unfold Sim.oInvoke at hr
  split at hr
  · rename_i t' v hf
    have h1 := opv_VR hg ht hf
    simp only [VR] at h1
    obtain ⟨y, e1, e2⟩ := h1
    split at hr
    · rename_i vs hvs
      have h2 := opvs_VRs hg ht hvs
      split at hr
      · rename_i f hm
        have h3 : VRs η (v :: vs) (#[y] ++ args.map a.eval).toList := by
          simp only [Array.toList_append, Array.toList_map, List.cons_append, List.nil_append, VRs]
          exact ⟨_, _, rfl, e2, h2⟩
        have h4 := h.callF hG hr h3
        obtain ⟨n, hn⟩ := made_depth
        have e : (do let d ← resolve a.eval ⟨.invoke rc name, args, argTypes⟩ t; invoke d.target d.args : Sem Next).run C.P w = (callFunc f (#[y] ++ args.map a.eval)).run C.P w := by
          have e5 : (#[Value.iface t' y] ++ args.map a.eval).extract 1 = args.map a.eval := by
            apply Array.ext'
            simp only [Array.toList_extract, Array.toList_append, List.extract, Array.toList_map, Array.size_append, Array.size_map, List.cons_append, List.nil_append, List.drop_succ_cons, List.drop_zero]
            exact List.take_of_length_le (by simp)
          have e6 : (#[Value.iface t' y] ++ args.map a.eval)[0]? = some (Value.iface t' y) := by rw [← Array.getElem?_toList, Array.toList_append]; rfl
          simp only [resolve, Sem.run_bind, Sem.run_pure, Result.andThen_ok, invoke, e6, e5, e1, callMethod, run_program, hn, ← Nat.add_assoc, methodA_run hm]
        exact h4.congr e.symm
      · cases hr
    · cases hr
  · cases hr
theorem call_builtin (_ : Program) (ρ : Operand → Value) (b : Builtin) (args : Array Operand) (argTypes : Array TypeId) (t : TypeId) :
    (do let d ← resolve ρ ⟨.builtin b, args, argTypes⟩ t; invoke d.target d.args : Sem Next) = builtin b argTypes t (args.map fun | .const _ => true | _ => false) (args.map ρ) := rfl
theorem two_args {ng : Nat} {η : Env} (hg : GR η ng) (ht : TR η A a.tmps) {args : Array Operand} {x y : AV} (h : opvs ng A args.toList = some [x, y]) : ∃ vx vy, args.map a.eval = #[vx, vy] ∧ VR η x vx ∧ VR η y vy := by
  have h1 := opvs_VRs hg ht h
  simp only [VRs] at h1
  obtain ⟨vx, _, e, hx, vy, _, rfl, hy, rfl⟩ := h1
  exact ⟨vx, vy, by apply Array.ext'; simpa using e, hx, hy⟩
theorem HR.oBuiltin (h : HR C.P W0 η H nx w) (hg : GR η C.ng) (ht : TR η A a.tmps) {o : Oper} {b : Builtin} {args : Array Operand} {argTypes : Array TypeId} (ho : o.op = .call ⟨.builtin b, args, argTypes⟩) {r : Out}
    (hr : Sim.oBuiltin C.P C.ng A H nx b args argTypes = some r) : r.ok C.P W0 η w (execOp a.eval o) := by
  have he : execOp a.eval o = builtin b argTypes o.type (args.map fun | .const _ => true | _ => false) (args.map a.eval) := by
    unfold execOp; rw [ho]; rfl
  unfold Sim.oBuiltin at hr
  split at hr
  · rw [he]
    split at hr
    · rename_i sT xT hT
      have hT' : argTypes = #[sT, xT] := by apply Array.ext'; simpa using hT
      unfold oAct2 at hr
      split at hr
      · rename_i x y hxy
        obtain ⟨vx, vy, e, hx, hy⟩ := two_args hg ht hxy
        rw [e, hT']
        exact Out.of_ok hr fun q hq => ok_of_val (h.aAppend hq hx hy)
      · cases hr
    · cases hr
  · rw [he]
    split at hr
    · rename_i sT xT hT
      have hT' : argTypes = #[sT, xT] := by apply Array.ext'; simpa using hT
      unfold oAct2 at hr
      split at hr
      · rename_i x y hxy
        obtain ⟨vx, vy, e, hx, hy⟩ := two_args hg ht hxy
        rw [e, hT']
        exact Out.of_ok hr fun q hq => ok_of_val (h.aCopy hq hx hy)
      · cases hr
    · cases hr
  · rw [he]
    split at hr
    · rename_i t hT
      have hT' : argTypes = #[t] := by apply Array.ext'; simpa using hT
      split at hr
      · rename_i x hx1
        have h1 := opvs_VRs hg ht hx1
        simp only [VRs] at h1
        obtain ⟨vx, _, e, hx, rfl⟩ := h1
        have e' : args.map a.eval = #[vx] := by apply Array.ext'; simpa using e
        rw [e', hT']
        exact Out.of_ok hr fun q hq => ok_of_val (h.aClear hq hx)
      · cases hr
    · cases hr
  · rw [he]
    split at hr
    · rename_i pt tt hT
      have hT' : argTypes = #[pt, tt] := by apply Array.ext'; simpa using hT
      split at hr
      · rename_i x y hxy
        obtain ⟨vx, vy, e, hx, hy⟩ := two_args hg ht hxy
        rw [e, hT']
        exact Out.of_ok hr fun q hq => ok_of_val (h.aUString hq hx hy)
      · cases hr
    · cases hr
  · cases hr
    rw [he]; rfl
  · split at hr
    · rename_i t ts hT
      split at hr
      · rename_i x xs hX
        refine lift_ok h hg ht hr fun v hv => ?_
        obtain ⟨u, h1, h2⟩ := bnd_some.1 hv
        rw [ho]
        simp only [quiet, hT, hX, h1, h2]
      · cases hr
    · cases hr
  · exact lift_ok h hg ht hr fun v hv => by rw [ho]; exact hv
theorem HR.oCall (hG : C.Good) (h : HR C.P W0 η H nx w) (hg : GR η C.ng) (ht : TR η A a.tmps) {o : Oper} {c : Call} (ho : o.op = .call c) {r : Out}
    (hr : Sim.oCall C.Fn C.E C.P C.ng A H nx c = some r) : r.ok C.P W0 η w (execOp a.eval o) := by
  obtain ⟨callee, args, argTypes⟩ := c
  cases callee with
  | value f =>
    have he : execOp a.eval o = (do let d ← resolve a.eval ⟨.value f, args, argTypes⟩ o.type; invoke d.target d.args) := by unfold execOp; rw [ho]
    rw [he]; exact h.oValue hG hg ht hr
  | invoke rc name =>
    have he : execOp a.eval o = (do let d ← resolve a.eval ⟨.invoke rc name, args, argTypes⟩ o.type; invoke d.target d.args) := by unfold execOp; rw [ho]
    rw [he]; exact h.oInvoke hG hg ht hr
  | builtin b => exact h.oBuiltin hg ht ho hr

/-- ONE OPERATION. -/
theorem HR.aop (hG : C.Good) (h : HR C.P W0 η H nx w) (hg : GR η C.ng) (ht : TR η A a.tmps) {o : Oper} {r : Out}
    (hr : Sim.aop C.Fn C.E C.P C.ng A H nx o.op = some r) : r.ok C.P W0 η w (execOp a.eval o) := by
  obtain ⟨dst, op, type, pos, after, guard⟩ := o
  cases op with
  | move x => exact lift_ok h hg ht hr fun v hv => hv
  | assign x => exact lift_ok h hg ht hr fun v hv => hv
  | pick c x y =>
    refine lift_ok h hg ht hr fun v hv => ?_
    obtain ⟨u, h1, h2⟩ := bnd_some.1 hv
    obtain ⟨b, rfl, h3⟩ := onBool_some.1 h2
    cases b <;> simp only [quiet, h1] <;> exact h3
  | alloc e => exact Out.of_ok hr fun q hq => h.aAlloc hq
  | box e x =>
    obtain ⟨v, h1, h2⟩ := bnd_some.1 hr
    cases h2
    obtain ⟨η', w', y, k1, k2, k3, k4⟩ := h.aBox (e := e) (opv_VR hg ht h1)
    exact ⟨η', w', y, k1, by simp only [execOp, Sem.run_bind, k2, Result.andThen_ok, Sem.run_pure], k3, k4⟩
  | build t parts => exact lift_ok h hg ht hr fun v hv => hv
  | buildSlice t len parts =>
    obtain ⟨vs, h1, h2⟩ := bnd_some.1 hr
    have h3 := opvs_VRs hg ht h1
    obtain ⟨h4, h5⟩ := zipParts_spec (ρ := a.eval) h3
    have e : parts.map (fun x : Nat × Operand => (x.1, a.eval x.2)) = (parts.toList.map fun p => (p.1, a.eval p.2)).toArray := by
      apply Array.ext'; simp
    have := Out.of_ok h2 fun q hq => h.aBuildSlice hq h4 h5
    rw [← e] at this
    exact this
  | load t x =>
    refine lift_ok h hg ht hr fun v hv => ?_
    obtain ⟨u, h1, h2⟩ := bnd_some.1 hv
    simp only [quiet, h1]; exact loadF_spec h2
  | store t x v =>
    obtain ⟨u, h1, h2⟩ := bnd_some.1 hr
    obtain ⟨u', h3, h4⟩ := bnd_some.1 h2
    exact Out.of_ok h4 fun q hq => h.aStore (storeF_spec hq) (opv_VR hg ht h1) (opv_VR hg ht h3)
  | nilCheck x => exact lift_ok h hg ht hr fun v hv => hv
  | binOp op t x y yt =>
    refine lift_ok h hg ht hr fun v hv => ?_
    obtain ⟨u, h1, h2⟩ := bnd_some.1 hv
    obtain ⟨u', h3, h4⟩ := bnd_some.1 h2
    simp only [quiet, h1, h3]; exact binF_spec h4
  | unOp op t x =>
    refine lift_ok h hg ht hr fun v hv => ?_
    obtain ⟨u, h1, h2⟩ := bnd_some.1 hv
    simp only [quiet, h1]; exact h2
  | convert s d x =>
    have hr' : Sim.oConvert C.P C.ng A H nx s d x = some r := hr
    unfold Sim.oConvert at hr'
    split at hr'
    · rename_i v hv; cases hr'
      exact lift_ok (q := some v) h hg ht rfl fun u hu => by cases hu; exact hv
    · split at hr'
      · rename_i v hv
        exact Out.of_ok hr' fun q hq => h.aBytes hq (opv_VR hg ht hv)
      · cases hr'
  | makeInterface t x => exact lift_ok h hg ht hr fun v hv => hv
  | makeFunc f x y => exact lift_ok h hg ht hr fun v hv => hv
  | makeMap t rs =>
    cases rs with
    | none => exact Out.of_ok (o := some (Sim.aMakeMap H nx)) hr fun q hq => by cases hq; exact h.aMakeMap
    | some x => cases hr
  | makeSlice t l c =>
    obtain ⟨u, h1, h2⟩ := bnd_some.1 hr
    obtain ⟨u', h3, h4⟩ := bnd_some.1 h2
    exact Out.of_ok h4 fun q hq => h.aMakeSlice hq (opv_VR hg ht h1) (opv_VR hg ht h3)
  | slice t x lo hi mx => exact lift_ok h hg ht hr fun v hv => hv
  | fieldAddr s x f =>
    refine lift_ok h hg ht hr fun v hv => ?_
    obtain ⟨u, h1, h2⟩ := bnd_some.1 hv
    simp only [quiet, h1]; exact fieldF_spec h2
  | field t x f => exact lift_ok h hg ht hr fun v hv => hv
  | indexAddr t x i => exact lift_ok h hg ht hr fun v hv => hv
  | index t x i => exact lift_ok h hg ht hr fun v hv => hv
  | lookup t x i ok => exact lift_ok h hg ht hr fun v hv => hv
  | range t x =>
    obtain ⟨u, h1, h2⟩ := bnd_some.1 hr
    exact Out.of_ok h2 fun q hq => h.aRange hq (opv_VR hg ht h1)
  | next x str =>
    cases str with
    | false => cases hr
    | true =>
      obtain ⟨u, h1, h2⟩ := bnd_some.1 hr
      exact Out.of_ok h2 fun q hq => h.aNext hq (opv_VR hg ht h1)
  | typeAssert x xt s ok => exact lift_ok h hg ht hr fun v hv => hv
  | extract x i =>
    refine lift_ok h hg ht hr fun v hv => ?_
    obtain ⟨u, h1, h2⟩ := bnd_some.1 hv
    obtain ⟨vs, rfl, h3⟩ := onTuple_some.1 h2
    rw [nthF_eq] at h3
    simp only [quiet, h1, qExtract]; exact h3
  | call c => exact h.oCall hG hg ht rfl hr
  | defer c =>
    have hr' : Sim.oDefer C.ng A c = some r := hr
    unfold Sim.oDefer at hr'
    split at hr'
    · rename_i f args ts
      split at hr'
      · rename_i fi first captured hf
        have h1 := opv_VR hg ht hf
        simp only [VR] at h1
        obtain ⟨fs, cs, e1, e2, e3⟩ := h1
        split at hr'
        · rename_i vs hvs; cases hr'
          have h2 := opvs_VRs hg ht hvs
          refine ⟨{ target := .fn (.func fi) cs, args := fs ++ args.map a.eval }, ?_, cs, _, rfl, e3, by simpa using e2.append h2⟩
          simp only [execOp, resolve, e1, Deferred.ofValue]; rfl
        · cases hr'
      · cases hr'
    · cases hr'
  | panic x =>
    have hr' : Sim.oPanic C.ng A x = some r := hr
    unfold Sim.oPanic at hr'
    split at hr'
    · rename_i t v hv; cases hr'
      have h1 := opv_VR hg ht hv
      have h2 := h1
      simp only [VR] at h1
      obtain ⟨y, e1, e2⟩ := h1
      refine ⟨.iface t y, ?_, by rw [← e1]; exact h2⟩
      simp only [execOp, e1, Instr.panic]; rfl
    · cases hr'
  | _ => cases hr

end
end
end Go.Proofs.YtepkidlndboakaaGreatDoor.Sim
