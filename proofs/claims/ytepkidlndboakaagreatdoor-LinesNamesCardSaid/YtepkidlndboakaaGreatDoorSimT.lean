/-
  SIM, PART T. The other steps; runs.
-/
import Derived.Test.YtepkidlndboakaaGreatDoorSimS
import Derived.RangeFuncIn
import Derived.Recover
namespace Go.Proofs.YtepkidlndboakaaGreatDoor.Sim
open Go.RowKit (Below)
noncomputable section

section
variable {C : Cx} {W : World} {f0 : FuncId} {cs0 : List Frame} {R : Nat → Option Nat} {η : Env} {H : T Blk} {nx : Nat} {w : World}
variable {fn : Nat} {tm : T AV} {N : Nat} {df : List ADef} {kind : Bool} {ro : Option Nat} {cs : List AFrame} {fs : List Frame} {tmps : Array Value} {ds : List Deferred} {rO : Option Nat} {ks : List Item} {k : List AItem}

theorem alloc_size (w : World) (o : Obj) : (w.alloc o).heap.size = w.heap.size + 1 := by
  show (w.heap.push o).size = _
  simp

/-! ### Regions in text order -/
theorem callA_sound (hG : C.Good) {a : AFrame} {f : Frame} {g : Nat} {args : List AV} {xs : Array Value} {s' : AState} {m : Machine}
    (h : callA C g args a cs H nx = some s') (hs : step C.P m = .next (lone (Frame.enter C.P g xs .normal) (f :: fs ++ cs0) w)) (hx : VRs η args xs.toList)
    (hf : FR C.P R cs.length η a f) (hfs : FRs C.P R η cs fs) (hh : HR C.P ⟨W, R⟩ η H nx w) (hg : GR η C.ng) (hb : lastFn a.fn cs = f0) : Goes C W f0 cs0 m s' := by
  have h' : Option.casesOn (motive := fun _ => Option AState) (C.sm g args) (enterA C g args false a cs H nx) (fun v => goA (finA a v) cs H nx) = some s' := h
  rw [hG.sm] at h'
  exact enter_sound hG (kind := false) h' hs hx hf hfs hh hg hb
theorem recA_sound {a : AFrame} {f : Frame} {s' : AState} (h : recA a kind cs H nx = some s')
    (hs1 : ∀ v cs', tryRecover f (fs ++ cs0) = some (v, cs') → step C.P (lone f (fs ++ cs0) w) = .next (lone (f.finish v) cs' w))
    (hs2 : tryRecover f (fs ++ cs0) = none → step C.P (lone f (fs ++ cs0) w) = .next (lone (f.finish .nilIface) (fs ++ cs0) w))
    (hk : f.kind = kd kind) (hf : FR C.P R cs.length η a f) (hfs : FRs C.P R η cs fs) (hh : HR C.P ⟨W, R⟩ η H nx w) (hg : GR η C.ng) (hb : lastFn a.fn cs = f0) : Goes C W f0 cs0 (lone f (fs ++ cs0) w) s' := by
  unfold recA at h
  have hnil : VR η .nilIface .nilIface := by simp [VR]
  split at h
  · refine go_sound h (hs2 ?_) hnil hf hfs hh hg hb
    have hk' : f.kind = .normal := hk
    cases fs ++ cs0 <;> simp [tryRecover, hk']
  · have hk' : f.kind = .deferred := hk
    split at h
    · rename_i fn' tm' N' todo' df' v kind' ro' rest
      obtain ⟨c, fs', e1, c1, c2⟩ := hfs
      obtain ⟨x, hm, hx⟩ := c1.mode
      subst e1
      have ht := tryRecover_deferred hk' (c :: fs' ++ cs0)
      have hrec : recoverD (c :: fs' ++ cs0) = some (x, { c with mode := .panicking [{ v := x, recovered := true }] } :: (fs' ++ cs0)) := by
        simp only [List.cons_append, recoverD, hm]
      have hst := hs1 _ _ (ht.trans hrec)
      refine go_sound (cs := ⟨fn', tm', N', todo', df', .pan v true, kind', ro'⟩ :: rest) (fs := { c with mode := .panicking [{ v := x, recovered := true }] } :: fs') h hst hx hf ?_ hh hg hb
      exact ⟨_, fs', rfl, ⟨c1.fn, c1.size, c1.df, ⟨x, rfl, hx⟩, c1.kind, c1.ro, fun e => (by cases e), fun _ => c1.off (by intro e; cases e)⟩, c2⟩
    · rename_i a0 rest hne
      obtain ⟨c, fs', e1, c1, c2⟩ := hfs
      subst e1
      have ht := tryRecover_deferred hk' (c :: fs' ++ cs0)
      have hrec : recoverD (c :: fs' ++ cs0) = none := by
        have hm := c1.mode
        obtain ⟨fn', tm', N', todo', df', mode', kind', ro'⟩ := a0
        cases mode' with
        | run => have hm' : c.mode = .run := hm; simp only [List.cons_append, recoverD, hm']
        | ret => have hm' : c.mode = .returning := hm; simp only [List.cons_append, recoverD, hm']
        | pan v b =>
          cases b with
          | false => exact (hne _ _ _ _ _ _ _ _ rfl).elim
          | true =>
            obtain ⟨x, hm', _⟩ := hm
            simp only [List.cons_append, recoverD, hm']
      exact go_sound h (hs2 (ht.trans hrec)) hnil hf ⟨c, fs', rfl, c1, c2⟩ hh hg hb
    · cases h
theorem stepReg_sound (hG : C.Good) {ops : Array Oper} {l : List Oper} {i : Nat} {s' : AState} (h : stepReg C ops l k fn tm N df kind ro cs H nx = some s') (hi : ops.toList.drop i = l)
    (ht : TR η tm tmps) (hk : IRs η k ks) (hn : tmps.size = N) (hd : DRs η df ds) (ho : ROR η ro rO) (hfs : FRs C.P R η cs fs) (hh : HR C.P ⟨W, R⟩ η H nx w) (hg : GR η C.ng) (hb : lastFn fn cs = f0) :
    Goes C W f0 cs0 (lone (mkF fn tmps (.inRegion ops (List.range' i l.length) :: ks) ds (kd kind) rO) (fs ++ cs0) w) s' := by
  obtain ⟨r, h1, h2⟩ := bnd_some.1 h
  have hr := regL_sound (fn := fn) (ds := ds) (kind := kd kind) (ro := rO) (cs := fs ++ cs0) (ks := ks) hG h1 hi hn ht hh hg
  cases r with
  | fin tm' H' nx' =>
    cases h2
    obtain ⟨η', tmps', w', k1, k2, k3, k4, k5⟩ := hr
    refine ⟨_, k2.trans (.one sk_region_end), η', R, _, fs, w', rfl, FR.of k3 (hd.mono k1) (ho.mono k1) (TodoR.of k4 (hk.mono k1)), hfs.mono k1 (fun _ _ _ h => h), k5, hg.mono k1, hb⟩
  | out l' tm' H' nx' r =>
    obtain ⟨η', tmps', w', i', o, l'', k1, k2, e1, k3, k4, k5, k6, k7, k8, k9, k10⟩ := hr
    refine Goes.of_steps k2 ?_
    have hd' := hd.mono k1
    have ho' := ho.mono k1
    have hk' := hk.mono k1
    have hfs' : FRs C.P R η' cs fs := hfs.mono k1 fun _ _ _ h => h
    have hg' := hg.mono k1
    have hs0 := sk_op (P := C.P) (fn := fn) (ds := ds) (kind := kd kind) (ro := rO) (cs := fs ++ cs0) (w := w') (ks := ks) (L := List.range' (i' + 1) l''.length) k7 k8
    have nodef : (∀ d, r ≠ .defer d) → o.semAt rO (⟨tmps', ds⟩ : Act).eval = execOp (⟨tmps', ds⟩ : Act).eval o := fun hne =>
      Oper.semAt_eq _ _ _ fun c e => by obtain ⟨d, hd⟩ := k10 c e; exact hne d hd
    have htodo : TodoR C.P R cs.length η' tm' (.reg ops l' :: k) tmps' (.inRegion ops (i' :: List.range' (i' + 1) l''.length) :: ks) := by
      subst e1
      exact TodoR.of k5 ⟨_, _, rfl, ⟨i', by rw [List.length_cons, List.range'_succ], k3⟩, hk'⟩
    have hfr : FR C.P R cs.length η' ⟨fn, tm', N, .reg ops l' :: k, df, .run, kind, ro⟩ (mkF fn tmps' (.inRegion ops (i' :: List.range' (i' + 1) l''.length) :: ks) ds (kd kind) rO) :=
      FR.of k4 hd' ho' htodo
    cases r with
    | val v H2 nx2 =>
      obtain ⟨η2, w2, x, m1, m2, m3, m4⟩ := k9
      rw [nodef fun d e => by cases e] at hs0
      exact go_sound h2 (step_val hs0 m2) m3 (hfr.mono m1 fun _ h => h) (hfs'.mono m1 fun _ _ _ h => h) m4 (hg'.mono m1) hb
    | skip H2 nx2 =>
      obtain ⟨η2, w2, m1, m2, m4⟩ := k9
      rw [nodef fun d e => by cases e] at hs0
      exact go_sound h2 (step_skip' hs0 m2) VR.undef (hfr.mono m1 fun _ h => h) (hfs'.mono m1 fun _ _ _ h => h) m4 (hg'.mono m1) hb
    | enter g args =>
      obtain ⟨xs, m1, m2⟩ := k9
      rw [nodef fun d e => by cases e] at hs0
      exact callA_sound hG h2 (step_enter' rfl hs0 m1) m2 hfr hfs' k6 hg' hb
    | round l args =>
      obtain ⟨m, xs, m0, m1, m2⟩ := k9
      rw [nodef fun d e => by cases e] at hs0
      exact round_sound h2 m0 m1 m2 (fun g ts x y w2 hr => step_round' hs0 hr) hfr hfs' k6 hg' hb
    | defer d =>
      obtain ⟨dd, m1, m2⟩ := k9
      cases ro with
      | some l => cases h2
      | none =>
        have hrO : rO = none := ho'
        subst hrO
        rw [Oper.semAt_none] at hs0
        have hfr2 : FR C.P R cs.length η' ⟨fn, tm', N, .reg ops l' :: k, d :: df, .run, kind, none⟩ (mkF fn tmps' (.inRegion ops (i' :: List.range' (i' + 1) l''.length) :: ks) (dd :: ds) (kd kind) none) :=
          FR.of k4 ⟨dd, ds, rfl, m2, hd'⟩ ho' htodo
        exact go_sound h2 (step_defer' hs0 m1) VR.undef hfr2 hfs' k6 hg' hb
    | recover =>
      cases ro with
      | some l => cases h2
      | none =>
        have hrO : rO = none := ho'
        subst hrO
        rw [Oper.semAt_none] at hs0
        exact recA_sound h2 (fun v cs' e => step_recover_some rfl hs0 k9 e) (fun e => step_recover_none rfl hs0 k9 e) rfl hfr hfs' k6 hg' hb
    | panic v =>
      cases h2
      obtain ⟨x, m1, m2⟩ := k9
      rw [nodef fun d e => by cases e] at hs0
      refine ⟨_, .one (step_panic' hs0 m1), η', R, _, fs, w', rfl, ?_, hfs', k6, hg', hb⟩
      exact ⟨rfl, k4, hd', ⟨x, rfl, m2⟩, rfl, ho', fun e => (by cases e), fun _ => k5⟩

/-! ### Loops over functions -/
theorem HR.setLoop (hh : HR C.P ⟨W, R⟩ η H nx w) {l : Nat} {m : Loc} {al al' : ALoop} {lp' : Loop} (hH : H.get l = some (.loop al)) (hl : η l = some m) (hk : LR η al' lp') :
    HR C.P ⟨W, R⟩ η (H.set (.loop al') l) nx (setObjAt w m.B (.loop lp')) := by
  obtain ⟨h1, h2, lp, h3, _⟩ := hh.blk l _ m hH hl
  exact hh.upd hH rfl hl setObjAt_same h2 ⟨h1, h2, lp', setObjAt_get (Array.getElem?_eq_some_iff.1 h3).1, hk⟩
theorem setState_spec {s : LoopState} {l : Nat} {H' : T Blk} {m : Loc} (h : setState s l H = some H') (hl : η l = some m) (hh : HR C.P ⟨W, R⟩ η H nx w) :
    ∃ al lp, H.get l = some (.loop al) ∧ w.heap[m.B]? = some (.loop lp) ∧ LR η al lp ∧ HR C.P ⟨W, R⟩ η H' nx (setObjAt w m.B (.loop { lp with state := s })) := by
  unfold setState at h
  split at h
  · rename_i st fn tm N params assign body d hH
    cases h
    obtain ⟨_, _, lp, h3, h4⟩ := hh.blk l _ m hH hl
    refine ⟨_, lp, hH, h3, h4, hh.setLoop hH hl ?_⟩
    obtain ⟨_, j2, j3, j4, j5, j6, j7, j8, j9⟩ := h4
    exact ⟨rfl, j2, j3, j4, j5, j6, j7, j8, j9⟩
  · cases h
theorem stepEnd_sound {s' : AState} (h : stepEnd fn tm N df kind ro cs H nx = some s')
    (ht : TR η tm tmps) (hn : tmps.size = N) (hd : DRs η df ds) (ho : ROR η ro rO) (hfs : FRs C.P R η cs fs) (hh : HR C.P ⟨W, R⟩ η H nx w) (hg : GR η C.ng) (hb : lastFn fn cs = f0) :
    Goes C W f0 cs0 (lone (mkF fn tmps [] ds (kd kind) rO) (fs ++ cs0) w) s' := by
  unfold stepEnd at h
  split at h
  · cases h
    have hrO : rO = none := ho
    subst hrO
    exact ⟨_, .one sk_end, η, R, _, fs, w, rfl, ⟨rfl, hn, hd, rfl, rfl, rfl, fun e => (by cases e), fun _ => ht⟩, hfs, hh, hg, hb⟩
  · rename_i l
    obtain ⟨m, hl, hrO⟩ := ho
    subst hrO
    split at h
    · split at h
      · rename_i H' hst
        split at h
        · cases h
        · split at h
          · rename_i c rest
            obtain ⟨al, lp, e1, e2, e3, e4⟩ := setState_spec hst hl hh
            obtain ⟨f, fs', e5, c1, c2⟩ := hfs
            subst e5
            have hds : ds = [] := hd
            subst hds
            have hp : lp.pending = none := e3.2.1
            have hrun : (Instr.endRound m.B none).run C.P w = .ok (.bool true) (setObjAt w m.B (.loop { lp with state := .ready })) := by
              have e6 : ({ lp with state := .ready, pending := none } : Loop) = { lp with state := .ready } := by
                obtain ⟨q1, q2, q3, q4, q5, q6, q7, q8⟩ := lp
                simp only at hp
                subst hp; rfl
              simp only [Instr.endRound, Instr.getLoop, Sem.run_bind, run_getObj' e2 (fun c e f h => by cases h), Result.andThen_ok, Sem.run_pure, Option.isNone_none, if_true, e6,
                run_setObj' e2 (fun c e f h => by cases h)]
            have hst2 := stepR_round_end (P := C.P) (b := mkF fn tmps [] [] .normal (some m.B)) (a := ⟨tmps, []⟩) (c := f) (cs := fs' ++ cs0) rfl rfl hrun
            exact go_sound h hst2 (by simp [VR]) c1 c2 e4 hg hb
          · cases h
      · cases h
    · cases h
theorem stepBegin_sound {s' : AState} (h : stepBegin k fn tm N df kind ro cs H nx = some s')
    (ht : TR η tm tmps) (hk : IRs η k ks) (hn : tmps.size = N) (hd : DRs η df ds) (ho : ROR η ro rO) (hfs : FRs C.P R η cs fs) (hh : HR C.P ⟨W, R⟩ η H nx w) (hg : GR η C.ng) (hb : lastFn fn cs = f0) :
    Goes C W f0 cs0 (lone (mkF fn tmps (.beginRound :: ks) ds (kd kind) rO) (fs ++ cs0) w) s' := by
  unfold stepBegin at h
  split at h
  · rename_i l
    obtain ⟨m, hl, hrO⟩ := ho
    subst hrO
    split at h
    · rename_i hH
      split at h
      · rename_i H' hst; cases h
        obtain ⟨al, lp, e1, e2, e3, e4⟩ := setState_spec hst hl hh
        rw [hH] at e1; cases e1
        have hst' : lp.state = .ready := e3.1
        have hrun : (Instr.beginRound m.B).run C.P w = .ok () (setObjAt w m.B (.loop { lp with state := .busy })) := by
          simp only [Instr.beginRound, Instr.getLoop, Sem.run_bind, run_getObj' e2 (fun c e f h => by cases h), Result.andThen_ok, Sem.run_pure,
            run_setObj' e2 (fun c e f h => by cases h), hst']
        have hs := stepR_beginRound (P := C.P) (b := mkF fn tmps [] ds (kd kind) (some m.B)) (a := ⟨tmps, ds⟩) (k := ks) (cs := fs ++ cs0) rfl hrun
        exact ⟨_, .one hs, η, R, _, fs, _, rfl, FR.of hn hd ⟨m, hl, rfl⟩ (TodoR.of ht hk), hfs, e4, hg, hb⟩
      · cases h
    · cases h
  · cases h
theorem stepEndRange_sound {l : Nat} {m : Loc} {s' : AState} (h : stepEndRange l k fn tm N df kind ro cs H nx = some s') (hl : η l = some m)
    (ht : TR η tm tmps) (hk : IRs η k ks) (hn : tmps.size = N) (hd : DRs η df ds) (ho : ROR η ro rO) (hfs : FRs C.P R η cs fs) (hh : HR C.P ⟨W, R⟩ η H nx w) (hg : GR η C.ng) (hb : lastFn fn cs = f0) :
    Goes C W f0 cs0 (lone (mkF fn tmps (.endRangeFunc m.B :: ks) ds (kd kind) rO) (fs ++ cs0) w) s' := by
  unfold stepEndRange at h
  split at h
  · rename_i hH
    split at h
    · rename_i H' hst; cases h
      obtain ⟨al, lp, e1, e2, e3, e4⟩ := setState_spec hst hl hh
      rw [hH] at e1; cases e1
      have hst' : lp.state = .ready := e3.1
      have hp : lp.pending = none := e3.2.1
      have hne : (LoopState.ready == LoopState.busy) = false := by decide
      have hrun : (Instr.endLoop m.B).run C.P w = .ok none (setObjAt w m.B (.loop { lp with state := .exhausted })) := by
        simp only [Instr.endLoop, Instr.getLoop, Sem.run_bind, run_getObj' e2 (fun c e f h => by cases h), Result.andThen_ok, Sem.run_pure,
          run_setObj' e2 (fun c e f h => by cases h), hst', hne, Bool.false_eq_true, if_false, hp]
      have hs := stepR_endRangeFunc (P := C.P) (b := mkF fn tmps [] ds (kd kind) rO) (a := ⟨tmps, ds⟩) (k := ks) (cs := fs ++ cs0) hrun
      exact ⟨_, .one hs, η, R, _, fs, _, rfl, FR.of hn hd ho (TodoR.of ht hk), hfs, e4, hg, hb⟩
    · cases h
  · cases h
theorem stepRange_sound (hG : C.Good) {g : Operand} {ps : Array Tmp} {assign body : Code} {s' : AState} (h : stepRange C g ps assign body k fn tm N df kind ro cs H nx = some s')
    (ht : TR η tm tmps) (hk : IRs η k ks) (hn : tmps.size = N) (hd : DRs η df ds) (ho : ROR η ro rO) (hfs : FRs C.P R η cs fs) (hh : HR C.P ⟨W, R⟩ η H nx w) (hg : GR η C.ng) (hb : lastFn fn cs = f0) :
    Goes C W f0 cs0 (lone (mkF fn tmps (.code (.rangeFunc g ps assign body) :: ks) ds (kd kind) rO) (fs ++ cs0) w) s' := by
  unfold stepRange at h
  split at h
  · have hrO : rO = none := ho
    subst hrO
    split at h
    · rename_i f first captured hgv
      have h1 := opv_VR (a := ⟨tmps, ds⟩) hg ht hgv
      simp only [VR] at h1
      obtain ⟨xs, ys, e1, e2, e3⟩ := h1
      obtain ⟨η1, a1, a2, a3⟩ := hh.newObj (b := .dfr) (o := .deferred (some [])) fun η' _ => ⟨rfl, hh.base_le, alloc_get _ _⟩
      let lp : Loop := { state := .ready, pending := none, fn := fn, tmps := tmps, params := ps, assign := assign, body := body, defers := w.heap.size }
      obtain ⟨η2, b1, b2, b3⟩ := a2.newObj (b := .loop ⟨.ready, fn, tm, N, ps, assign, body, nx⟩) (o := .loop lp) fun η' hle => ⟨rfl, a2.base_le, lp, alloc_get _ _,
        rfl, rfl, rfl, (ht.mono (Env.le_trans a1 hle)), hn, rfl, rfl, rfl, _, hle _ _ a3, rfl⟩
      have h12 := Env.le_trans a1 b1
      have hx : VRs η2 (first ++ [.yield (nx + 1)] ++ captured) ((xs ++ #[Value.func (.yield (w.heap.size + 1)) #[] #[]]) ++ ys).toList := by
        simp only [Array.toList_append]
        refine ((VRs.mono h12 _ _ e2).append ?_).append (VRs.mono h12 _ _ e3)
        simp only [VRs, VR]
        refine ⟨_, _, rfl, ⟨_, b3, ?_⟩, rfl⟩
        rw [alloc_size]
      have henter : (Instr.enterLoop fn tmps ps assign body none).run C.P w = .ok (w.heap.size + 1, [{ target := .collected w.heap.size, args := #[] }]) ((w.alloc (.deferred (some []))).alloc (.loop lp)) := by
        have hsz : (w.heap.push (Obj.deferred (some []))).size = w.heap.size + 1 := by simp
        simp only [Instr.enterLoop, Sem.run_bind, run_newObj, Result.andThen_ok, Sem.run_pure, hsz]; rfl
      obtain ⟨F, h2, h3⟩ := bnd_some.1 h
      obtain ⟨a', h4, h5⟩ := bnd_some.1 h3
      cases h5
      obtain ⟨hf1, hf2⟩ := hG.fn f F h2
      obtain ⟨c, hc, _⟩ := bnd_some.1 h4
      have hs := stepR_rangeFunc (P := C.P) (b := mkF fn tmps [] ds (kd kind) none) (a := ⟨tmps, ds⟩) (k := ks) (cs := fs ++ cs0) (w := w) (g := g) (ps := ps) (assign := assign) (body := body) henter
        (d := { target := .fn (.func f) ys, args := xs ++ #[.func (.yield (w.heap.size + 1)) #[] #[]] }) (w₁' := (w.alloc (.deferred (some []))).alloc (.loop lp))
        (by simp only [resolve, e1, Deferred.ofValue, List.map_toArray, List.map_cons, List.map_nil]; rfl)
        (callFunc_run hf1 hf2 hc)
      obtain ⟨k1, k2⟩ := newFrame_spec (R := R) (p := cs.length + 1) (η := η2) hf1 h4 hx
      refine ⟨_, .one hs, η2, R, _, _ :: fs, _, rfl, k1, ⟨_, fs, rfl, ?_, hfs.mono h12 (fun _ _ _ h => h)⟩, b2, hg.mono h12, hb⟩
      refine FR.of (ro := none) (todo := .inRange (nx + 1) :: k) (df := .collected nx :: df) (kind := kind) (ds := [{ target := .collected w.heap.size, args := #[] }] ++ ds) (rO := none) (its := .inRangeFunc (w.heap.size + 1) :: ks) hn ⟨_, ds, rfl, ⟨_, b1 _ _ a3, rfl⟩, hd.mono h12⟩ rfl
        (TodoR.of (ht.mono h12) ⟨_, _, rfl, ⟨_, b3, ?_⟩, hk.mono h12⟩)
      rw [alloc_size]
    · cases h
  · cases h
end
end
end Go.Proofs.YtepkidlndboakaaGreatDoor.Sim
