/-
  SIM, PART U. Leaving a frame; the step; runs.
-/
import Derived.Test.YtepkidlndboakaaGreatDoorSimT
namespace Go.Proofs.YtepkidlndboakaaGreatDoor.Sim
open Go.RowKit (Below)
noncomputable section

section
variable {C : Cx} {W : World} {f0 : FuncId} {cs0 : List Frame} {R : Nat → Option Nat} {η : Env} {H : T Blk} {nx : Nat} {w : World}
variable {fn : Nat} {tm : T AV} {N : Nat} {df : List ADef} {kind : Bool} {ro : Option Nat} {cs : List AFrame} {fs : List Frame} {tmps : Array Value} {ds : List Deferred} {rO : Option Nat} {ks : List Item} {k : List AItem}

/-! ### Results -/
theorem rvA_run {W0 : Base} {P : Program} (hh : HR P W0 η H nx w) (ht : TR η tm tmps) {r : ResultVar} {v : AV} (h : rvA P tm H r = some v) :
    ∃ x, ((match r with | .tmp t => pure (tmps.getD t undef) | .cell a t => do loadVar t (← asAddr (tmps.getD a undef))) : Sem Value).run P w = .ok x w ∧ VR η v x := by
  cases r with
  | tmp t =>
    obtain ⟨x, h1, h2⟩ := ht t v h
    exact ⟨x, by simp [Array.getD_eq_getD_getElem?, h1], h2⟩
  | cell a t =>
    obtain ⟨u, h1, h2⟩ := bnd_some.1 h
    have h3 := loadF_spec h2
    obtain ⟨x, h4, h5⟩ := ht a u h1
    cases u with
    | ptr b off =>
      simp only [VR] at h5
      obtain ⟨l, hl, rfl⟩ := h5
      obtain ⟨y, h6, h7⟩ := hh.loadVar h3 hl
      exact ⟨y, by simp [Array.getD_eq_getD_getElem?, h4, asAddr, h6], h7⟩
    | _ => cases h3
theorem ressA_run {W0 : Base} {P : Program} (hh : HR P W0 η H nx w) (ht : TR η tm tmps) : ∀ {l : List ResultVar} {vs : List AV}, ressA P tm H l = some vs →
    ∃ xs, (l.mapM (fun r => (match r with | .tmp t => pure (tmps.getD t undef) | .cell a t => do loadVar t (← asAddr (tmps.getD a undef)) : Sem Value))).run P w = .ok xs w ∧ VRs η vs xs
  | [], vs, h => by cases h; exact ⟨[], by simp, by simp [VRs]⟩
  | r :: l, vs, h => by
    obtain ⟨v, h1, h2⟩ := bnd_some.1 h
    obtain ⟨us, h3, h4⟩ := bnd_some.1 h2
    cases h4
    obtain ⟨x, k1, k2⟩ := rvA_run hh ht h1
    obtain ⟨xs, k3, k4⟩ := ressA_run hh ht (l := l) h3
    exact ⟨x :: xs, by rw [List.mapM_cons]; simp only [Sem.run_bind, k1, Result.andThen_ok, k3, Sem.run_pure], by simp only [VRs]; exact ⟨x, xs, rfl, k2, k4⟩⟩
theorem resultsA_run {W0 : Base} {P : Program} (hh : HR P W0 η H nx w) (ht : TR η tm tmps) {F : Func} {v : AV} (h : resultsA P F tm H = some v) :
    ∃ x, (results F tmps).run P w = .ok x w ∧ VR η v x := by
  obtain ⟨vs, h1, h2⟩ := bnd_some.1 h
  cases h2
  obtain ⟨xs, k1, k2⟩ := ressA_run hh ht h1
  refine ⟨if h : xs.toArray.size = 1 then xs.toArray[0] else .tuple xs.toArray, ?_, ?_⟩
  · have e : (results F tmps).run P w = ((F.results.mapM fun r => (match r with | .tmp t => pure (tmps.getD t undef) | .cell a t => do loadVar t (← asAddr (tmps.getD a undef)) : Sem Value)).run P w).andThen
        fun vs w' => .ok (if h : vs.size = 1 then vs[0] else .tuple vs) w' := by
      unfold results
      rw [Sem.run_bind]
      rfl
    rw [e, Array.mapM_eq_mapM_toList, ← bind_pure_comp, Sem.run_bind, k1]
    simp only [Result.andThen_ok, Sem.run_pure]
  · cases vs with
    | nil =>
      simp only [VRs] at k2; subst k2
      simp only [oneOr, VR]
      exact ⟨_, rfl, by simp [VRs]⟩
    | cons v vs =>
      simp only [VRs] at k2
      obtain ⟨x, xs', rfl, k3, k4⟩ := k2
      cases vs with
      | nil =>
        simp only [VRs] at k4; subst k4
        exact k3
      | cons u us =>
        simp only [VRs] at k4
        obtain ⟨y, ys, rfl, k5, k6⟩ := k4
        have hne : ¬ ((x :: y :: ys).toArray.size = 1) := by simp
        rw [dif_neg hne]
        simp only [oneOr, VR]
        exact ⟨_, rfl, by simp only [VRs]; exact ⟨x, _, rfl, k3, y, ys, rfl, k5, k6⟩⟩

/-! ### Leaving -/
theorem handA_sound {f : Frame} {v : AV} {x : Value} {s' : AState} (h : handA v kind cs H nx = some s') (hv : VR η v x)
    (hfn : f.fn = fn) (hm : f.mode = .returning) (hd : f.defers = []) (hk : f.kind = kd kind) {F : Func} (hF : C.P.funcs[fn]? = some F) (hr : (results F f.tmps).run C.P w = .ok x w)
    (hfs : FRs C.P R η cs fs) (hh : HR C.P ⟨W, R⟩ η H nx w) (hg : GR η C.ng) (hb : lastFn fn cs = f0) : Goes C W f0 cs0 (lone f (fs ++ cs0) w) s' := by
  cases kind with
  | false =>
    have hl : f.leaving C.P w (.returned x) := ⟨hm, hd, hk, F, by rw [hfn]; exact hF, hr⟩
    cases cs with
    | nil =>
      cases h
      have : fs = [] := hfs
      subst this
      exact ⟨_, .refl _ _, η, R, f, x, w, rfl, hl, hfn.trans hb, hv, hh⟩
    | cons c rest =>
      obtain ⟨c', fs', e, c1, c2⟩ := hfs
      subst e
      exact go_sound (fs := fs') h (step_leave_returned hl) hv c1 c2 hh hg hb
  | true =>
    cases cs with
    | nil => cases h
    | cons c rest =>
      obtain ⟨c', fs', e, c1, c2⟩ := hfs
      subst e
      have hl : f.going C.P w (.returned x) := ⟨hm, hd, F, by rw [hfn]; exact hF, hr⟩
      have hst := step_going_returned (cs := fs' ++ cs0) (c := c') hk hl
      obtain ⟨fn', tm', N', todo', df', mode', kind', ro'⟩ := c
      have h' : handD ⟨fn', tm', N', todo', df', mode', kind', ro'⟩ rest H nx = some s' := h
      have same : settle c'.mode = c'.mode → some (AState.go ⟨fn', tm', N', todo', df', mode', kind', ro'⟩ rest H nx) = some s' → Goes C W f0 cs0 (lone f (c' :: fs' ++ cs0) w) s' := by
        intro e1 e2
        cases e2
        have e3 : ({ c' with mode := settle c'.mode } : Frame) = c' := by rw [e1]
        rw [e3] at hst
        exact ⟨_, .one hst, η, R, c', fs', w, rfl, c1, c2, hh, hg, hb⟩
      cases mode' with
      | run => exact same (by have hm' : c'.mode = .run := c1.mode; rw [hm']; rfl) h'
      | ret => exact same (by have hm' : c'.mode = .returning := c1.mode; rw [hm']; rfl) h'
      | pan u b =>
        obtain ⟨y, hm', hy⟩ := c1.mode
        cases b with
        | false => exact same (by rw [hm']; rfl) h'
        | true =>
          cases h'
          have e3 : settle c'.mode = .returning := by rw [hm']; rfl
          rw [e3] at hst
          refine ⟨_, .one hst, η, R, _, fs', w, rfl, ⟨c1.fn, c1.size, c1.df, rfl, c1.kind, c1.ro, fun e => (by cases e), fun _ => c1.off (by intro e; cases e)⟩, c2, hh, hg, hb⟩
theorem delDsts_spec {t : Nat} {v : AV} : ∀ {l : List Oper} {A : T AV}, (delDsts l A).get t = some v → A.get t = some v ∧ ∀ o ∈ l, o.dst ≠ some t
  | [], A, h => ⟨h, fun o ho => by simp at ho⟩
  | o :: l, A, h => by
    rw [delDsts] at h
    split at h
    · rename_i d hd
      obtain ⟨k1, k2⟩ := delDsts_spec h
      obtain ⟨k3, k4⟩ := T.get_del k1
      refine ⟨k4, fun o' ho' => ?_⟩
      rcases List.mem_cons.1 ho' with rfl | ho'
      · rw [hd]; exact fun e => k3 (by cases e; rfl)
      · exact k2 o' ho'
    · rename_i hd
      obtain ⟨k1, k2⟩ := delDsts_spec h
      refine ⟨k1, fun o' ho' => ?_⟩
      rcases List.mem_cons.1 ho' with rfl | ho'
      · rw [hd]; exact fun e => by cases e
      · exact k2 o' ho'
theorem panTm_spec {P : Program} {p : Nat} {todo : List AItem} {its : List Item} (h : TodoR P R p η tm todo tmps its) : TR η (panTm todo tm) tmps := by
  have drawn : ∀ {ops : Array Oper} {d : Draw} {D : Nat → Prop}, DrawR P R p η ops d tm tmps D → TR η (delDsts d.ops tm) tmps := by
    intro ops d D hD t v hv
    obtain ⟨k1, k2⟩ := delDsts_spec hv
    exact hD.old t v k1 fun i o h1 h2 _ => k2 o (List.mem_of_getElem? h1) h2
  cases todo with
  | nil => exact h.1
  | cons it k =>
    cases it with
    | draw ops d => obtain ⟨D, L, ks, _, _, hD, _⟩ := h; exact drawn hD
    | drawCall ops d a => obtain ⟨D, L, ks, rest, _, _, hD, _⟩ := h; exact drawn hD
    | _ => exact h.1
theorem step_collected {P : Program} {f : Frame} {csx : List Frame} {B : Nat} {w' : World} (hm : f.mode ≠ .run) (hd : f.defers = { target := .collected B, args := #[] } :: ds)
    (hr : (Instr.takeDeferred B).run P w = .ok [] w') : step P (lone f csx w) = .next (lone { f with defers := ds } csx w') := by
  refine step_lone_go ?_
  cases hmode : f.mode with
  | run => exact absurd hmode hm
  | returning => simp [stepG, unwind, hmode, hd, Sem.runT_eq, hr, GStep.bare_after]
  | panicking chain => simp [stepG, unwind, hmode, hd, Sem.runT_eq, hr, GStep.bare_after]
theorem unwindA_sound (hG : C.Good) {f : Frame} {mode : AMode} {s' : AState} (h : unwindA C fn tm N df mode kind ro cs H nx = some s') (hmode : mode ≠ .run)
    (hf : FR C.P R cs.length η ⟨fn, tm, N, k, df, mode, kind, ro⟩ f) (hfs : FRs C.P R η cs fs) (hh : HR C.P ⟨W, R⟩ η H nx w) (hg : GR η C.ng) (hb : lastFn fn cs = f0) : Goes C W f0 cs0 (lone f (fs ++ cs0) w) s' := by
  have hrun : f.mode ≠ .run := by
    have hm := hf.mode
    cases mode with
    | run => exact absurd rfl hmode
    | ret => have hm' : f.mode = .returning := hm; rw [hm']; exact fun e => by cases e
    | pan v b => obtain ⟨x, hm', _⟩ := hm; rw [hm']; exact fun e => by cases e
  cases df with
  | nil =>
    obtain ⟨F, h1, h2⟩ := bnd_some.1 h
    have hF := (hG.fn fn F h1).1
    have hd : f.defers = [] := hf.df
    cases mode with
    | run => exact absurd rfl hmode
    | ret =>
      obtain ⟨v, h3, h4⟩ := bnd_some.1 h2
      obtain ⟨x, k1, k2⟩ := resultsA_run hh (hf.off hmode) h3
      exact handA_sound h4 k2 hf.fn hf.mode hd hf.kind hF k1 hfs hh hg hb
    | pan v b =>
      cases b with
      | true => cases h2
      | false =>
        have h2' : panUp v cs H nx = some s' := h2
        unfold panUp at h2'
        split at h2'
        · rename_i fn' tm' N' todo' df' kind' ro' rest
          cases h2'
          obtain ⟨c, fs', e, c1, c2⟩ := hfs
          subst e
          obtain ⟨x, hm, hx⟩ := hf.mode
          have hl : f.leaving C.P w (.panicked [{ v := x, recovered := false }]) := ⟨hm, hd, F, by rw [hf.fn]; exact hF⟩
          have hst := step_leave_panicked (cs := fs' ++ cs0) (c := c) hl
          have hcm : c.mode = .run := c1.mode
          have e3 : c.raise [{ v := x, recovered := false }] = { c with mode := .panicking [{ v := x, recovered := false }] } := by
            rw [Frame.raise_mode, hcm]; rfl
          rw [e3] at hst
          exact ⟨_, .one hst, η, R, _, fs', w, rfl, ⟨c1.fn, c1.size, c1.df, ⟨x, rfl, hx⟩, c1.kind, c1.ro, fun e => (by cases e), fun _ => panTm_spec (c1.run rfl)⟩, c2, hh, hg, hb⟩
        · cases h2'
  | cons d dfs =>
    obtain ⟨dd, ds', e, d1, d2⟩ := hf.df
    have h' : unwindD C d ⟨fn, tm, N, [], dfs, mode, kind, ro⟩ cs H nx = some s' := h
    have hfr : FR C.P R cs.length η ⟨fn, tm, N, [], dfs, mode, kind, ro⟩ { f with defers := ds' } :=
      ⟨hf.fn, hf.size, d2, hf.mode, hf.kind, hf.ro, fun e => absurd e hmode, fun _ => hf.off hmode⟩
    cases d with
    | collected b =>
      obtain ⟨l, hl, rfl⟩ := d1
      have h2 : (match H.get b with | some .dfr => some (AState.go ⟨fn, tm, N, [], dfs, mode, kind, ro⟩ cs (H.set .dead b) nx) | _ => none) = some s' := h'
      split at h2
      · rename_i hH
        cases h2
        obtain ⟨b1, b2, b3⟩ := hh.blk b _ l hH hl
        have hrun2 : (Instr.takeDeferred l.B).run C.P w = .ok [] (setObjAt w l.B (.deferred none)) := by
          simp only [Instr.takeDeferred, Sem.run_bind, run_getObj' b3 (fun c e f h => by cases h), Result.andThen_ok, run_setObj' b3 (fun c e f h => by cases h), Sem.run_pure]
        refine ⟨_, .one (step_collected hrun e hrun2), η, R, _, fs, _, rfl, hfr, hfs, ?_, hg, hb⟩
        exact hh.upd hH rfl hl setObjAt_same b2 trivial
      · cases h2
    | fn g captured args =>
      obtain ⟨ys, xs, rfl, d3, d4⟩ := d1
      have h2 : enterA C g (args ++ captured) true ⟨fn, tm, N, [], dfs, mode, kind, ro⟩ cs H nx = some s' := h'
      obtain ⟨F, h3, h4⟩ := bnd_some.1 h2
      obtain ⟨a', h5, h6⟩ := bnd_some.1 h4
      obtain ⟨c, hc, _⟩ := bnd_some.1 h5
      obtain ⟨q1, q2⟩ := hG.fn g F h3
      have hst := step_defer (P := C.P) (cs := fs ++ cs0) (w := w) hrun e rfl (callFunc_run (xs := xs ++ ys) q1 q2 hc)
      exact enter_sound hG (kind := true) h2 hst (by rw [Array.toList_append]; exact d4.append d3) hfr hfs hh hg hb

/-! ### The step -/
theorem stepCode_sound (hG : C.Good) {c : Code} {s' : AState} (h : stepCode C c k fn tm N df kind ro cs H nx = some s')
    (ht : TR η tm tmps) (hk : IRs η k ks) (hn : tmps.size = N) (hd : DRs η df ds) (ho : ROR η ro rO) (hfs : FRs C.P R η cs fs) (hh : HR C.P ⟨W, R⟩ η H nx w) (hg : GR η C.ng) (hb : lastFn fn cs = f0) :
    Goes C W f0 cs0 (lone (mkF fn tmps (.code c :: ks) ds (kd kind) rO) (fs ++ cs0) w) s' := by
  have go : ∀ {k' : List AItem} {ks' : List Item}, step C.P (lone (mkF fn tmps (.code c :: ks) ds (kd kind) rO) (fs ++ cs0) w) = .next (lone (mkF fn tmps ks' ds (kd kind) rO) (fs ++ cs0) w) → IRs η k' ks' →
      some (AState.go ⟨fn, tm, N, k', df, .run, kind, ro⟩ cs H nx) = some s' → Goes C W f0 cs0 (lone (mkF fn tmps (.code c :: ks) ds (kd kind) rO) (fs ++ cs0) w) s' := by
    intro k' ks' h1 h2 h3
    cases h3
    exact ⟨_, .one h1, η, R, _, fs, w, rfl, FR.of hn hd ho (TodoR.of ht h2), hfs, hh, hg, hb⟩
  cases c with
  | skip => exact go sk_skip hk h
  | region id ops draw => exact stepRegion_sound hG h ht hk hn hd ho hfs hh hg hb
  | seq x y => exact go (k' := .code x :: .code y :: k) sk_seq ⟨_, _, rfl, rfl, _, _, rfl, rfl, hk⟩ h
  | cond c x y =>
    obtain ⟨v, h1, h2⟩ := bnd_some.1 h
    obtain ⟨b, rfl, h3⟩ := onBool_some.1 h2
    have h4 := opv_VR (a := ⟨tmps, ds⟩) hg ht h1
    simp only [VR] at h4
    cases b with
    | true => exact go (k' := .code x :: k) (sk_cond h4) ⟨_, _, rfl, rfl, hk⟩ h3
    | false => exact go (k' := .code y :: k) (sk_cond h4) ⟨_, _, rfl, rfl, hk⟩ h3
  | block id x => exact go (k' := .code x :: .inBlock id :: k) sk_block ⟨_, _, rfl, rfl, _, _, rfl, rfl, hk⟩ h
  | loop x => exact go (k' := .code x :: .inLoop x :: k) sk_loop ⟨_, _, rfl, rfl, _, _, rfl, rfl, hk⟩ h
  | rangeFunc g ps a b => exact stepRange_sound hG h ht hk hn hd ho hfs hh hg hb
  | exit id =>
    obtain ⟨k', h1, h2⟩ := bnd_some.1 h
    obtain ⟨ks', h3, h4⟩ := exitA_spec hk h1
    exact go (sk_exit h3) h4 h2
  | label l => exact go sk_label hk h
  | ret =>
    cases ro with
    | some l => cases h
    | none =>
      cases h
      have hrO : rO = none := ho
      subst hrO
      exact ⟨_, .one sk_ret, η, R, _, fs, w, rfl, ⟨rfl, hn, hd, rfl, rfl, rfl, fun e => (by cases e), fun _ => ht⟩, hfs, hh, hg, hb⟩
  | scope x => cases h
  | goto l => cases h
  | refuse y => cases h
theorem stepItem_sound (hG : C.Good) {it : AItem} {i : Item} {s' : AState} (h : stepItem C it k fn tm N df kind ro cs H nx = some s') (hi : IR η it i)
    (ht : TR η tm tmps) (hk : IRs η k ks) (hn : tmps.size = N) (hd : DRs η df ds) (ho : ROR η ro rO) (hfs : FRs C.P R η cs fs) (hh : HR C.P ⟨W, R⟩ η H nx w) (hg : GR η C.ng) (hb : lastFn fn cs = f0) :
    Goes C W f0 cs0 (lone (mkF fn tmps (i :: ks) ds (kd kind) rO) (fs ++ cs0) w) s' := by
  have go : ∀ {k' : List AItem} {ks' : List Item}, step C.P (lone (mkF fn tmps (i :: ks) ds (kd kind) rO) (fs ++ cs0) w) = .next (lone (mkF fn tmps ks' ds (kd kind) rO) (fs ++ cs0) w) → IRs η k' ks' →
      some (AState.go ⟨fn, tm, N, k', df, .run, kind, ro⟩ cs H nx) = some s' → Goes C W f0 cs0 (lone (mkF fn tmps (i :: ks) ds (kd kind) rO) (fs ++ cs0) w) s' := by
    intro k' ks' h1 h2 h3
    cases h3
    exact ⟨_, .one h1, η, R, _, fs, w, rfl, FR.of hn hd ho (TodoR.of ht h2), hfs, hh, hg, hb⟩
  cases it with
  | code c =>
    have hi' : i = .code c := hi
    subst hi'
    exact stepCode_sound hG h ht hk hn hd ho hfs hh hg hb
  | inBlock id =>
    have hi' : i = .inBlock id := hi
    subst hi'
    exact go sk_inBlock hk h
  | inLoop b =>
    have hi' : i = .inLoop b := hi
    subst hi'
    exact go (k' := .code b :: .inLoop b :: k) sk_inLoop ⟨_, _, rfl, rfl, _, _, rfl, rfl, hk⟩ h
  | reg ops l =>
    obtain ⟨j, rfl, hj⟩ := hi
    exact stepReg_sound hG h hj ht hk hn hd ho hfs hh hg hb
  | draw ops d => exact hi.elim
  | drawCall ops d a => exact hi.elim
  | inRange l => cases h
  | endRange l =>
    obtain ⟨m, hl, rfl⟩ := hi
    exact stepEndRange_sound h hl ht hk hn hd ho hfs hh hg hb
  | begin =>
    have hi' : i = .beginRound := hi
    subst hi'
    exact stepBegin_sound h ht hk hn hd ho hfs hh hg hb
theorem stepF_sound (hG : C.Good) {a : AFrame} {f : Frame} {s' : AState} (h : stepF C a cs H nx = some s')
    (hf : FR C.P R cs.length η a f) (hfs : FRs C.P R η cs fs) (hh : HR C.P ⟨W, R⟩ η H nx w) (hg : GR η C.ng) (hb : lastFn a.fn cs = f0) : Goes C W f0 cs0 (lone f (fs ++ cs0) w) s' := by
  obtain ⟨fn, tm, N, todo, df, mode, kind, ro⟩ := a
  cases mode with
  | ret => exact unwindA_sound hG (mode := .ret) h (by intro e; cases e) hf hfs hh hg hb
  | pan v b => exact unwindA_sound hG (mode := .pan v b) h (by intro e; cases e) hf hfs hh hg hb
  | run =>
    have h' : stepRun C fn tm N (norm todo) df kind ro cs H nx = some s' := h
    have hfe := mkF_eq (f := f) hf.mode
    have hfn : f.fn = fn := hf.fn
    have hkd : f.kind = kd kind := hf.kind
    rw [hfn, hkd] at hfe
    have hrun := hf.run rfl
    have plain : TR η tm f.tmps ∧ IRs η todo f.todo → Goes C W f0 cs0 (lone f (fs ++ cs0) w) s' := by
      rintro ⟨ht, hi⟩
      obtain ⟨its, k1, k2⟩ := norm_steps (P := C.P) (fn := fn) (tmps := f.tmps) (ds := f.defers) (kind := kd kind) (ro := f.roundOf) (cs := fs ++ cs0) (w := w) hi
      rw [← hfe] at k2
      refine Goes.of_steps k2 ?_
      revert h' k1
      generalize norm todo = nt
      intro h' k1
      cases nt with
      | nil =>
        have : its = [] := k1
        subst this
        exact stepEnd_sound h' ht hf.size hf.df hf.ro hfs hh hg hb
      | cons it k' =>
        obtain ⟨i, ks', rfl, k3, k4⟩ := k1
        exact stepItem_sound hG h' k3 ht k4 hf.size hf.df hf.ro hfs hh hg hb
    cases todo with
    | nil => exact plain hrun
    | cons it k' =>
      cases it with
      | draw ops d =>
        obtain ⟨D, L, ks', e, e2, e3, e4⟩ := hrun
        rw [hfe, e]
        exact stepDraw_sound hG h' e3 e4 e2 hf.size hf.df hf.ro hfs hh hg hb
      | drawCall ops d a => cases h'
      | _ => exact plain hrun
theorem stayA_sound (hG : C.Good) {s s' : AState} {m : Machine} (h : stayA C s = some s') (hs : SR C W f0 cs0 s m) : Goes C W f0 cs0 m s' := by
  cases s with
  | go fr cs H nx =>
    obtain ⟨η, R, f, fs, w, rfl, h1, h2, h3, h4, h5⟩ := hs
    exact stepF_sound hG h h1 h2 h3 h4 h5
  | done v H nx => cases h; exact ⟨m, .refl _ _, hs⟩
theorem runA_sound (hG : C.Good) : ∀ (n : Nat) {s s' : AState} {m : Machine}, runA C n s = some s' → SR C W f0 cs0 s m → Goes C W f0 cs0 m s'
  | 0, s, s', m, h, hs => stayA_sound hG h hs
  | n + 1, s, s', m, h, hs => by
    obtain ⟨s1, h1, h2⟩ := bnd_some.1 h
    obtain ⟨m1, k1, k2⟩ := runA_sound hG n h1 hs
    obtain ⟨m2, k3, k4⟩ := runA_sound hG n h2 k2
    exact ⟨m2, k1.trans k3, k4⟩

/-- A RUN OF THE ABSTRACT MACHINE IS A CALL'S. -/
theorem calls_of_runA (hG : C.Good) {F : Func} {args : List AV} {xs : Array Value} {a : AFrame} {n : Nat} {v : AV} {H' : T Blk} {nx' : Nat} (hF : C.P.funcs[f0]? = some F) (ha : newFrame F f0 args false = some a)
    (hr : runA C n (.go a [] H nx) = some (.done v H' nx')) (hx : VRs η args xs.toList) (hh : HR C.P ⟨W, fun _ => none⟩ η H nx W) (hg : GR η C.ng) :
    Calls C.P f0 xs W fun e w' => ∃ η' R x, e = .returned x ∧ VR η' v x ∧ HR C.P ⟨W, R⟩ η' H' nx' w' := by
  intro cs0
  obtain ⟨k1, k2⟩ := newFrame_spec (R := fun _ => none) (p := 0) hF ha hx
  obtain ⟨m', hs, η', R, f, x, w', rfl, h1, h2, h3, h4⟩ := runA_sound (cs0 := cs0) hG n hr ⟨η, fun _ => none, _, [], W, rfl, k1, rfl, hh, hg, k2⟩
  exact ⟨.returned x, w', f, ⟨η', R, x, rfl, h3, h4⟩, hs, h2, h1⟩
end
end
end Go.Proofs.YtepkidlndboakaaGreatDoor.Sim
