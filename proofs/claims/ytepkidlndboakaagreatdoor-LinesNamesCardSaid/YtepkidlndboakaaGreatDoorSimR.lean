/-
  SIM, PART R. Drawn regions: the walk; values that come back; calls.
-/
import Derived.Test.YtepkidlndboakaaGreatDoorSimP
namespace Go.Proofs.YtepkidlndboakaaGreatDoor.Sim
open Go.RowKit (Below)
noncomputable section

section
variable {P : Program} {W : World} {p ng nx : Nat} {H : T Blk} {ops : Array Oper} {tm : T AV} {fn : FuncId} {ds : List Deferred} {kind : CallKind} {ro : Option Nat} {cs : List Frame} {ks : List Item}

theorem draw_walk {d : Draw} (good : ∀ i o mi, d.ops[i]? = some o → d.anc[i]? = some mi → acting P o.op = false → bit d.fin i = false → (mi &&& maskOf d.todo).beq 0 = true → Good1 P ng tm d.ops d.anc H d.V d.V i mi o) :
    ∀ {L : List Nat} {D : Nat → Prop} {tmps : Array Value} {R : Nat → Option Nat} {η : Env} {w : World}, Lin d.ops D L → DrawR P R p η ops d tm tmps D → HR P ⟨W, R⟩ η H nx w → GR η ng →
    ∃ (D' : Nat → Prop) (L' : List Nat) (tmps' : Array Value) (R' : Nat → Option Nat) (η' : Env) (w' : World), η.le η' ∧
      Steps P (lone (mkF fn tmps (.inRegion ops L :: ks) ds kind ro) cs w) (lone (mkF fn tmps' (.inRegion ops L' :: ks) ds kind ro) cs w') ∧
      DrawR P R' p η' ops d tm tmps' D' ∧ Lin d.ops D' L' ∧ HR P ⟨W, R'⟩ η' H nx w' ∧ (∀ q b, q ≠ p → R b = some q → R' b = some q) ∧
      (L' = [] ∨ ∃ i L'' o, L' = i :: L'' ∧ d.ops[i]? = some o ∧ acting P o.op = true) ∧ tmps'.size = tmps.size
  | [], D, tmps, R, η, w, hL, h, hh, hg => ⟨D, [], tmps, R, η, w, Env.le_refl _, .refl _ _, h, hL, hh, fun _ _ _ k => k, .inl rfl, rfl⟩
  | i :: L, D, tmps, R, η, w, hL, h, hh, hg => by
    have hL0 := hL
    cases hL with
    | cons ho hi hp hL' =>
      rename_i o
      cases hact : acting P o.op with
      | true => exact ⟨D, i :: L, tmps, R, η, w, Env.le_refl _, .refl _ _, h, hL0, hh, fun _ _ _ k => k, .inr ⟨i, L, o, rfl, ho, hact⟩, rfl⟩
      | false =>
        obtain ⟨mi, hmi, _⟩ := anc_at h.anc ho
        have hfin : bit d.fin i = false := by
          cases hb : bit d.fin i with
          | false => rfl
          | true => exact absurd (h.fin i hb) hi
        have hrem : (mi &&& maskOf d.todo).beq 0 = true := and_maskOf fun a ha => by
          cases hb : bit mi a with
          | false => rfl
          | true =>
            obtain ⟨_, _, _, k⟩ := (h.acts a).1 ha
            exact absurd (anc_ready h.anc h.closed ho hp hmi hb) k
        have ho' : ops[i]? = some o := by rw [← Array.getElem?_toList, ← h.ops]; exact ho
        have hacts : ∀ j, j ∈ d.todo ↔ ∃ o', d.ops[j]? = some o' ∧ acting P o'.op = true ∧ ¬ (j = i ∨ D j) := fun j => by
          rw [h.acts j]
          constructor
          · rintro ⟨o', k1, k2, k3⟩
            refine ⟨o', k1, k2, fun e => e.elim (fun e => ?_) k3⟩
            subst e; rw [ho] at k1; cases k1; rw [hact] at k2; cases k2
          · rintro ⟨o', k1, k2, k3⟩; exact ⟨o', k1, k2, fun e => k3 (.inr e)⟩
        have hfin' : ∀ j, bit d.fin j = true → j = i ∨ D j := fun j hj => .inr (h.fin j hj)
        have hnd : ∀ c, o.op ≠ .defer c := fun c e => by rw [e] at hact; cases hact
        have hfinish : ∀ v, (mkF fn tmps (.inRegion ops (i :: L) :: ks) ds kind ro).finish v = mkF fn ((⟨tmps, ds⟩ : Act).put o.dst v).tmps (.inRegion ops L :: ks) ds kind ro := fun v => finish_op ho' v
        rcases good i o mi ho hmi hact hfin hrem with ⟨h1, h2⟩ | ⟨h1, h2 | ⟨h2, v, h3, h4⟩⟩
        · have hw := h.want ho hp hmi h1
          have hn := h.put (ds := ds) ho hp hi (VR.undef (η := η)) h2 (fun _ _ => rfl) hacts hfin'
          obtain ⟨D', L', tmps', R', η', w', k1, k2, k3, k4, k5, k6, k7, k8⟩ := draw_walk good hL' hn hh hg
          refine ⟨D', L', tmps', R', η', w', k1, .head ?_ k2, k3, k4, k5, k6, k7, k8.trans put_size⟩
          have := sk_op_skip (P := P) (fn := fn) (tmps := tmps) (ds := ds) (kind := kind) (ro := ro) (cs := cs) (w := w) (ks := ks) (ops := ops) (i := i) (L := L) (by simp [ho', hw])
          rw [hfinish] at this
          exact this
        · obtain ⟨e, z, b, h3, h4, h5, h6⟩ := h2
          have hw := h.want ho hp hmi h1
          obtain ⟨_, b', h7, h8⟩ := h.res i o e ho h3 hi
          rw [h5] at h7; cases h7
          obtain ⟨η1, w1, x, j1, j2, j3, j4⟩ := hh.allocAt h8 h4 (isZ_spec h6)
          have hn := (h.mono (R' := R) j1 fun _ k => k).put (ds := ds) ho hp hi j3 h5 (fun _ _ => rfl) hacts hfin'
          have hn' : DrawR P (fun i => if i = b then none else R i) p η1 ops d tm ((⟨tmps, ds⟩ : Act).put o.dst x).tmps (fun j => j = i ∨ D j) :=
            { hn with
              res := fun j o' e' m1 m2 m3 => by
                obtain ⟨q1, b', q2, q3⟩ := hn.res j o' e' m1 m2 m3
                refine ⟨q1, b', q2, ?_⟩
                have hne : b' ≠ b := fun e0 => by
                  subst e0
                  exact h.resInj i j o o' e e' b' (fun e1 => m3 (.inl e1.symm)) ho h3 hi m1 m2 (fun k => m3 (.inr k)) h5 q2
                show (if b' = b then none else R b') = some p
                rw [if_neg hne]; exact q3 }
          obtain ⟨D', L', tmps', R', η', w', k1, k2, k3, k4, k5, k6, k7, k8⟩ := draw_walk good hL' hn' j4 (hg.mono j1)
          refine ⟨D', L', tmps', R', η', w', Env.le_trans j1 k1, .head ?_ k2, k3, k4, k5, fun q c hq hc => k6 q c hq ?_, k7, k8.trans put_size⟩
          · have hs := sk_op (P := P) (fn := fn) (ds := ds) (kind := kind) (ro := ro) (cs := cs) (w := w) (ks := ks) (L := L) ho' hw
            rw [Oper.semAt_eq _ _ _ hnd] at hs
            have hr : (execOp (⟨tmps, ds⟩ : Act).eval o).run P w = .ok (.value x) w1 := by
              unfold execOp
              rw [h3]
              simp only [Sem.run_bind, j2, Result.andThen_ok, Sem.run_pure]
            have := step_val hs hr
            rw [hfinish] at this
            exact this
          · show (if c = b then none else R c) = some q
            rw [if_neg fun e0 => by subst e0; rw [h8] at hc; cases hc; exact hq rfl]
            exact hc
        · have hw := h.want ho hp hmi h1
          have henv := h.env ho hp hi hmi
          obtain ⟨x, h5, h6⟩ := quiet_run (a := ⟨tmps, ds⟩) hh hg henv h3
          have hn := h.put (ds := ds) ho hp hi h6 h4 (fun _ _ => rfl) hacts hfin'
          obtain ⟨D', L', tmps', R', η', w', k1, k2, k3, k4, k5, k6, k7, k8⟩ := draw_walk good hL' hn hh hg
          refine ⟨D', L', tmps', R', η', w', k1, .head ?_ k2, k3, k4, k5, k6, k7, k8.trans put_size⟩
          have hs := sk_op (P := P) (fn := fn) (ds := ds) (kind := kind) (ro := ro) (cs := cs) (w := w) (ks := ks) (L := L) ho' hw
          rw [Oper.semAt_eq _ _ _ hnd] at hs
          have := step_val hs h5
          rw [hfinish] at this
          exact this

theorem DrawR.stage {R : Nat → Option Nat} {η : Env} {tmps : Array Value} {D : Nat → Prop} {d : Draw} (h : DrawR P R p η ops d tm tmps D) {V' : T AV} (hk : ∀ j v, d.V.get j = some v → V'.get j = some v) :
    DrawR P R p η ops ⟨d.ops, d.anc, V', d.todo, d.fin⟩ tm tmps D :=
  { h with
    dom := fun i hi => let ⟨v, hv⟩ := h.dom i hi; ⟨v, hk i v hv⟩
    val := fun i v hv hi => by
      obtain ⟨u, hu⟩ := h.dom i hi
      have hv' : V'.get i = some v := hv
      rw [hk i u hu] at hv'; cases hv'
      exact h.val i _ hu hi
    res := fun i o e k1 k2 k3 => let ⟨q1, b, q2, q3⟩ := h.res i o e k1 k2 k3; ⟨q1, b, hk i _ q2, q3⟩
    resInj := fun i j o o' e e' b hij k1 k2 k3 k4 k5 k6 k7 k8 => by
      obtain ⟨_, b1, q2, _⟩ := h.res i o e k1 k2 k3
      obtain ⟨_, b2, q3, _⟩ := h.res j o' e' k4 k5 k6
      have h7 : V'.get i = _ := k7
      have h8 : V'.get j = _ := k8
      rw [hk i _ q2] at h7; cases h7
      rw [hk j _ q3] at h8; cases h8
      exact h.resInj i j o o' e e' b hij k1 k2 k3 k4 k5 k6 q2 q3 }
theorem overlay_spec {V : T AV} {t : Nat} {v : AV} : ∀ {l : List Oper} {i : Nat} {A A' : T AV}, overlay l i V A = some A' → A'.get t = some v →
    (∃ (k : Nat) (o : Oper), l[k]? = some o ∧ o.dst = some t ∧ V.get (i + k) = some v) ∨ (A.get t = some v ∧ ∀ (k : Nat) (o : Oper), l[k]? = some o → o.dst ≠ some t)
  | [], i, A, A', h, hv => by cases h; exact .inr ⟨hv, fun k o hk => by simp at hk⟩
  | o :: l, i, A, A', h, hv => by
    rw [overlay] at h
    split at h
    · rename_i u hu
      split at h
      · rename_i d hd
        rcases overlay_spec h hv with ⟨k, o', k1, k2, k3⟩ | ⟨k1, k2⟩
        · exact .inl ⟨k + 1, o', by simpa using k1, k2, by rw [show i + (k + 1) = i + 1 + k by omega]; exact k3⟩
        · rcases T.get_set k1 with ⟨rfl, rfl⟩ | ⟨k3, k4⟩
          · exact .inl ⟨0, o, by simp, hd, hu⟩
          · refine .inr ⟨k4, fun k o' hk => ?_⟩
            cases k with
            | zero => simp at hk; subst hk; rw [hd]; exact fun e => k3 (by cases e; rfl)
            | succ k => exact k2 k o' (by simpa using hk)
      · rename_i hd
        rcases overlay_spec h hv with ⟨k, o', k1, k2, k3⟩ | ⟨k1, k2⟩
        · exact .inl ⟨k + 1, o', by simpa using k1, k2, by rw [show i + (k + 1) = i + 1 + k by omega]; exact k3⟩
        · refine .inr ⟨k1, fun k o' hk => ?_⟩
          cases k with
          | zero => simp at hk; subst hk; rw [hd]; exact fun e => by cases e
          | succ k => exact k2 k o' (by simpa using hk)
    · cases h
end

/-! ### Values that come back -/
section
variable {P : Program} {R : Nat → Option Nat} {p : Nat} {η : Env}
theorem finA_spec {a a' : AFrame} {f : Frame} {v : AV} {x : Value} (hf : FR P R p η a f) (h : finA a v = some a') (hv : VR η v x) : FR P R p η a' (f.finish x) ∧ a'.fn = a.fn := by
  obtain ⟨fn, tm, N, todo, df, mode, kind, ro⟩ := a
  cases mode with
  | ret => cases h
  | pan _ _ => cases h
  | run =>
    have hm : f.mode = .run := hf.mode
    have hrun := hf.run rfl
    have hfe := mkF_eq hm
    cases todo with
    | nil => cases h
    | cons it k =>
      cases it with
      | reg ops l =>
        cases l with
        | nil => cases h
        | cons o l =>
          obtain ⟨tm', h1, h2⟩ := bnd_some.1 h
          cases h2
          obtain ⟨ht, it, its, e1, ⟨i, e2, e3⟩, e4⟩ := hrun
          rw [e2, List.length_cons, List.range'_succ] at e1
          have ho : ops[i]? = some o := by
            rw [← Array.getElem?_toList]
            have := congrArg (fun l => l[0]?) e3
            simpa using this
          have hd' : ops.toList.drop (i + 1) = l := by
            have := congrArg List.tail e3
            simpa using this
          have hfin : f.finish x = mkF f.fn ((⟨f.tmps, f.defers⟩ : Act).put o.dst x).tmps (.inRegion ops (List.range' (i + 1) l.length) :: its) f.defers f.kind f.roundOf := by
            conv => lhs; rw [hfe, e1]
            exact finish_op ho x
          obtain ⟨k1, k2⟩ := putT_spec (ds := f.defers) h1 ht hf.size hv
          rw [hfin]
          exact ⟨⟨hf.fn, k2, hf.df, rfl, hf.kind, hf.ro, fun _ => ⟨k1, _, _, rfl, ⟨i + 1, rfl, hd'⟩, e4⟩, fun e => absurd rfl e⟩, rfl⟩
      | drawCall ops d a =>
        obtain ⟨ma, h1, h2⟩ := bnd_some.1 h
        cases h2
        obtain ⟨D, L, its, rest, e1, e2, e3, e4, e5, e6⟩ := hrun
        obtain ⟨o, k1, k2, k3⟩ := e3.next (ds := f.defers) e4 e5 e6 h1 hv
        have ho : ops[a]? = some o := by rw [← Array.getElem?_toList, ← e3.ops]; exact k1
        have hfin : f.finish x = mkF f.fn ((⟨f.tmps, f.defers⟩ : Act).put o.dst x).tmps (.inRegion ops L :: its) f.defers f.kind f.roundOf := by
          conv => lhs; rw [hfe, e1]
          exact finish_op ho x
        rw [hfin]
        exact ⟨⟨hf.fn, put_size.trans hf.size, hf.df, rfl, hf.kind, hf.ro, fun _ => ⟨_, _, _, rfl, e2, k2, k3⟩, fun e => absurd rfl e⟩, rfl⟩
      | inRange l =>
        cases h
        obtain ⟨ht, it, its, e1, ⟨m, e2, e3⟩, e4⟩ := hrun
        rw [e3] at e1
        have hfin : f.finish x = mkF f.fn f.tmps (.endRangeFunc m.B :: its) f.defers f.kind f.roundOf := by
          conv => lhs; rw [hfe, e1]
          rfl
        rw [hfin]
        exact ⟨⟨hf.fn, hf.size, hf.df, rfl, hf.kind, hf.ro, fun _ => ⟨ht, _, _, rfl, ⟨m, e2, rfl⟩, e4⟩, fun e => absurd rfl e⟩, rfl⟩
      | code c => cases h
      | inBlock id => cases h
      | inLoop c => cases h
      | draw ops d => cases h
      | endRange l => cases h
      | begin => cases h

theorem ofArgs_spec : ∀ {args : List AV} {i : Nat} {A : T AV} {t : Nat} {v : AV}, (ofArgs args i A).get t = some v → (∃ k, args[k]? = some v ∧ t = i + k) ∨ A.get t = some v
  | [], i, A, t, v, h => .inr h
  | u :: us, i, A, t, v, h => by
    have h' : (ofArgs us (i + 1) (A.set u i)).get t = some v := h
    rcases ofArgs_spec h' with ⟨k, k1, k2⟩ | k
    · exact .inl ⟨k + 1, by simpa using k1, by omega⟩
    · rcases T.get_set k with ⟨rfl, rfl⟩ | ⟨_, k⟩
      · exact .inl ⟨0, by simp, by omega⟩
      · exact .inr k
theorem newFrame_spec {F : Func} {g : FuncId} {args : List AV} {xs : Array Value} {kind : Bool} {a : AFrame} (hF : P.funcs[g]? = some F) (h : newFrame F g args kind = some a) (hx : VRs η args xs.toList) :
    FR P R p η a (Frame.enter P g xs (if kind then .deferred else .normal)) ∧ a.fn = g := by
  obtain ⟨c, hc, h2⟩ := bnd_some.1 h
  cases h2
  have hlen : xs.size = args.length := by simpa using hx.length
  refine ⟨⟨rfl, ?_, rfl, rfl, rfl, rfl, fun _ => ?_, fun e => absurd rfl e⟩, rfl⟩
  · show (xs ++ Array.replicate (((P.funcs[g]?).map (·.ntmps)).getD 0 - xs.size) undef).size = Nat.add (lenF args) (Nat.sub F.ntmps (lenF args))
    rw [hF, lenF_eq, Array.size_append, Array.size_replicate, hlen]; rfl
  · refine TodoR.of (fun t v hv => ?_) ⟨_, _, ?_, rfl, rfl⟩
    · rcases ofArgs_spec hv with ⟨k, k1, k2⟩ | k
      · obtain ⟨x, hx1, hx2⟩ := hx.get k v k1
        rw [Nat.zero_add] at k2; subst k2
        refine ⟨x, ?_, hx2⟩
        have hlt := (List.getElem?_eq_some_iff.1 k1).1
        show (xs ++ Array.replicate _ undef)[t]? = some x
        rw [Array.getElem?_append_left (by rw [hlen]; exact hlt), ← Array.getElem?_toList]; exact hx1
      · rw [T.get_e] at k; cases k
    · show [Item.code (((P.funcs[g]?).bind (·.body)).getD _)] = _
      rw [hF]
      simp only [Option.bind_some, hc, Option.getD_some]
end

section
variable {C : Cx} {W : World} {f0 : FuncId} {cs0 : List Frame} {R : Nat → Option Nat} {η : Env} {H : T Blk} {nx : Nat} {w : World}
theorem Goes.of_steps {m m1 : Machine} {s : AState} (h : Steps C.P m m1) (k : Goes C W f0 cs0 m1 s) : Goes C W f0 cs0 m s := let ⟨m', k1, k2⟩ := k; ⟨m', h.trans k1, k2⟩
theorem enter_sound (hG : C.Good) {a : AFrame} {f : Frame} {cs : List AFrame} {fs : List Frame} {g : Nat} {args : List AV} {xs : Array Value} {kind : Bool} {s' : AState} {m : Machine}
    (h : enterA C g args kind a cs H nx = some s') (hs : step C.P m = .next (lone (Frame.enter C.P g xs (if kind then .deferred else .normal)) (f :: fs ++ cs0) w)) (hx : VRs η args xs.toList)
    (hf : FR C.P R cs.length η a f) (hfs : FRs C.P R η cs fs) (hh : HR C.P ⟨W, R⟩ η H nx w) (hg : GR η C.ng) (hb : lastFn a.fn cs = f0) : Goes C W f0 cs0 m s' := by
  obtain ⟨F, h1, h2⟩ := bnd_some.1 h
  obtain ⟨a', h3, h4⟩ := bnd_some.1 h2
  cases h4
  obtain ⟨k1, k2⟩ := newFrame_spec (R := R) (p := (a :: cs).length) (hG.fn g F h1).1 h3 hx
  exact ⟨_, .one hs, η, R, _, f :: fs, w, rfl, k1, ⟨f, fs, rfl, hf, hfs⟩, hh, hg, hb⟩
theorem go_sound {a : AFrame} {f : Frame} {cs : List AFrame} {fs : List Frame} {v : AV} {x : Value} {s' : AState} {m : Machine}
    (h : goA (finA a v) cs H nx = some s') (hs : step C.P m = .next (lone (f.finish x) (fs ++ cs0) w)) (hv : VR η v x)
    (hf : FR C.P R cs.length η a f) (hfs : FRs C.P R η cs fs) (hh : HR C.P ⟨W, R⟩ η H nx w) (hg : GR η C.ng) (hb : lastFn a.fn cs = f0) : Goes C W f0 cs0 m s' := by
  obtain ⟨a'', h1, h2⟩ := bnd_some.1 h
  cases h2
  obtain ⟨k1, k2⟩ := finA_spec hf h1 hv
  exact ⟨_, .one hs, η, R, _, fs, w, rfl, k1, hfs, hh, hg, by rw [k2]; exact hb⟩
end
end
end Go.Proofs.YtepkidlndboakaaGreatDoor.Sim
