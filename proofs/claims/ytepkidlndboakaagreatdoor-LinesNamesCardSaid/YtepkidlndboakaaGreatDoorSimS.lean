/-
  SIM, PART S. Drawn regions: the entry, and the steps.
-/
import Derived.Test.YtepkidlndboakaaGreatDoorSimR
namespace Go.Proofs.YtepkidlndboakaaGreatDoor.Sim
open Go.RowKit (Below)
noncomputable section

section
variable {P : Program} {W : World} {p : Nat} {η : Env} {w : World}
theorem resA_spec : ∀ {os : List Oper} {i : Nat} {V V' : T AV} {H H' : T Blk} {nx nx' : Nat} {R : Nat → Option Nat}, resA P os i V H nx = some (V', H', nx') → i + os.length ≤ 8388608 → HR P ⟨W, R⟩ η H nx w →
    ∃ R' : Nat → Option Nat, HR P ⟨W, R'⟩ η H' nx' w ∧ (∀ q b, R b = some q → R' b = some q) ∧ (∀ j, j < i → V'.get j = V.get j) ∧
      (∀ k o e, os[k]? = some o → o.op = .alloc e → o.guard = none ∧ ∃ b, V'.get (i + k) = some (.ptr b 0) ∧ R' b = some p ∧ nx ≤ b) ∧
      (∀ k k' o o' e e' b, k < k' → os[k]? = some o → o.op = .alloc e → os[k']? = some o' → o'.op = .alloc e' → V'.get (i + k) = some (.ptr b 0) → V'.get (i + k') ≠ some (.ptr b 0))
  | [], i, V, V', H, H', nx, nx', R, h, _, hh => by
    cases h
    exact ⟨R, hh, fun _ _ h => h, fun _ _ => rfl, fun k o e hk => by simp at hk, fun k k' o o' e e' b _ hk => by simp at hk⟩
  | o :: os, i, V, V', H, H', nx, nx', R, h, hb, hh => by
    have hb' : i + 1 + os.length ≤ 8388608 := by simp at hb; omega
    rw [resA] at h
    split at h
    · rename_i e he
      split at h
      · rename_i z hz
        split at h
        · rename_i hg
          obtain ⟨R', k1, k2, k3, k4, k5⟩ := resA_spec h hb' (hh.keep p)
          have hnx := hh.R_nx
          have hV : V'.get i = some (.ptr nx 0) := (k3 i (by omega)).trans (T.get_set_same (by omega))
          refine ⟨R', k1, fun q b hq => k2 q b ?_, fun j hj => (k3 j (by omega)).trans (T.get_set_ne (by omega)), fun k o' e' hk he' => ?_, fun k k' o1 o2 e1 e2 b hkk h1 h2 h3 h4 h5 => ?_⟩
          · show (if b = nx then some p else R b) = some q
            rw [if_neg fun e0 => by subst e0; have hn : R b = none := hnx; rw [hn] at hq; cases hq]
            exact hq
          · cases k with
            | zero =>
              simp at hk; subst hk
              exact ⟨hg, nx, hV, k2 p nx (by show (if nx = nx then some p else R nx) = some p; rw [if_pos rfl]), Nat.le_refl _⟩
            | succ k =>
              obtain ⟨q1, b, q2, q3, q4⟩ := k4 k o' e' (by simpa using hk) he'
              exact ⟨q1, b, by rw [show i + (k + 1) = i + 1 + k by omega]; exact q2, q3, by omega⟩
          · cases k' with
            | zero => omega
            | succ k' =>
              rw [show i + (k' + 1) = i + 1 + k' by omega]
              cases k with
              | zero =>
                rw [Nat.add_zero, hV] at h5; cases h5
                obtain ⟨_, b, q2, _, q4⟩ := k4 k' o2 e2 (by simpa using h3) h4
                rw [q2]
                intro e0; cases e0; omega
              | succ k =>
                rw [show i + (k + 1) = i + 1 + k by omega] at h5
                exact k5 k k' o1 o2 e1 e2 b (by omega) (by simpa using h1) h2 (by simpa using h3) h4 h5
        · cases h
      · cases h
    · rename_i hne
      obtain ⟨R', k1, k2, k3, k4, k5⟩ := resA_spec h hb' hh
      refine ⟨R', k1, k2, fun j hj => k3 j (by omega), fun k o' e' hk he' => ?_, fun k k' o1 o2 e1 e2 b hkk h1 h2 h3 h4 h5 => ?_⟩
      · cases k with
        | zero => simp at hk; subst hk; exact absurd he' (hne e')
        | succ k =>
          obtain ⟨q1, b, q2, q3, q4⟩ := k4 k o' e' (by simpa using hk) he'
          exact ⟨q1, b, by rw [show i + (k + 1) = i + 1 + k by omega]; exact q2, q3, q4⟩
      · cases k' with
        | zero => omega
        | succ k' =>
          cases k with
          | zero => simp at h1; subst h1; exact absurd h2 (hne e1)
          | succ k =>
            rw [show i + (k' + 1) = i + 1 + k' by omega]
            rw [show i + (k + 1) = i + 1 + k by omega] at h5
            exact k5 k k' o1 o2 e1 e2 b (by omega) (by simpa using h1) h2 (by simpa using h3) h4 h5
theorem actsOf_spec : ∀ {os : List Oper} {i j : Nat}, j ∈ actsOf P os i ↔ ∃ k o, os[k]? = some o ∧ acting P o.op = true ∧ j = i + k
  | [], i, j => by simp [actsOf]
  | o :: os, i, j => by
    rw [actsOf]
    have ih := @actsOf_spec os (i + 1) j
    have step : (∃ k o', os[k]? = some o' ∧ acting P o'.op = true ∧ j = i + 1 + k) ↔ ∃ k o', (o :: os)[k + 1]? = some o' ∧ acting P o'.op = true ∧ j = i + (k + 1) := by
      constructor
      · rintro ⟨k, o', h1, h2, h3⟩; exact ⟨k, o', by simpa using h1, h2, by omega⟩
      · rintro ⟨k, o', h1, h2, h3⟩; exact ⟨k, o', by simpa using h1, h2, by omega⟩
    cases ha : acting P o.op <;> simp only [cond_false, cond_true, List.mem_cons]
    · rw [ih, step]
      constructor
      · rintro ⟨k, o', h⟩; exact ⟨k + 1, o', h⟩
      · rintro ⟨k, o', h1, h2, h3⟩
        cases k with
        | zero => simp at h1; subst h1; rw [ha] at h2; cases h2
        | succ k => exact ⟨k, o', h1, h2, h3⟩
    · rw [ih, step]
      constructor
      · rintro (rfl | ⟨k, o', h⟩)
        · exact ⟨0, o, by simp, ha, rfl⟩
        · exact ⟨k + 1, o', h⟩
      · rintro ⟨k, o', h1, h2, h3⟩
        cases k with
        | zero => exact .inl h3
        | succ k => exact .inr ⟨k, o', h1, h2, h3⟩
end

section
variable {C : Cx} {W : World} {f0 : FuncId} {cs0 : List Frame} {R : Nat → Option Nat} {η : Env} {H : T Blk} {nx : Nat} {w : World}
variable {fn : Nat} {tm : T AV} {N : Nat} {df : List ADef} {kind : Bool} {ro : Option Nat} {cs : List AFrame} {fs : List Frame} {tmps : Array Value} {ds : List Deferred} {rO : Option Nat} {ks : List Item} {k : List AItem}

def kd (k : Bool) : CallKind := if k then .deferred else .normal
theorem FR.of {todo : List AItem} {p : Nat} {its : List Item} (hn : tmps.size = N) (hd : DRs η df ds) (ho : ROR η ro rO) (ht : TodoR C.P R p η tm todo tmps its) :
    FR C.P R p η ⟨fn, tm, N, todo, df, .run, kind, ro⟩ (mkF fn tmps its ds (kd kind) rO) :=
  ⟨rfl, hn, hd, rfl, rfl, ho, fun _ => ht, fun e => absurd rfl e⟩
theorem stepRegion_sound (hG : C.Good) {id : Nat} {ops : Array Oper} {draw : Bool} {s' : AState} (h : stepRegion C id ops draw k fn tm N df kind ro cs H nx = some s')
    (ht : TR η tm tmps) (hk : IRs η k ks) (hn : tmps.size = N) (hd : DRs η df ds) (ho : ROR η ro rO) (hfs : FRs C.P R η cs fs) (hh : HR C.P ⟨W, R⟩ η H nx w) (hg : GR η C.ng) (hb : lastFn fn cs = f0) :
    Goes C W f0 cs0 (lone (mkF fn tmps (.code (.region id ops draw) :: ks) ds (kd kind) rO) (fs ++ cs0) w) s' := by
  unfold stepRegion at h
  split at h
  · cases h
    refine ⟨_, .one sk_region, η, R, _, fs, w, rfl, FR.of hn hd ho (TodoR.of ht ⟨_, _, rfl, ⟨0, ?_, by simp⟩, hk⟩), hfs, hh, hg, hb⟩
    rw [List.range_eq_range', Array.length_toList]
  · split at h
    · rename_i anc hanc
      cases hc : ((dstsOk N ops.toList [] && Nat.ble ops.toList.length 4096) && guardsOk ops.toList ops.toList) <;> rw [hc] at h <;> simp only [cond_false, cond_true] at h
      · cases h
      · simp only [Bool.and_eq_true] at hc
        obtain ⟨⟨c1, c2⟩, c3⟩ := hc
        have c2' := Nat.le_of_ble_eq_true c2
        split at h
        · rename_i V H' nx' hres
          cases h
          obtain ⟨R', k1, k2, k3, k4, k5⟩ := resA_spec (p := cs.length) hres (by omega) hh.drew
          have hlin : Lin ops.toList (fun _ => False) (Region.schedule (C.P.follows .mixedOrders) ops (w.tape w.drawn (.order fn id))) := by
            rw [hG.mixed]
            simp only [Region.schedule, Bool.true_or, if_true, Region.linearise]
            refine linearise_lin (fun i o ho e he hbe => ?_) _ _ _ _ (by simp) (fun i => ?_) ?_
            · rw [← Array.getElem?_toList] at ho
              obtain ⟨m, hm, _⟩ := anc_at hanc ho
              exact (anc_pred hanc ho hm he hbe).2
            · simp only [false_iff]
              intro e
              by_cases hi : i < ops.size
              · rw [Array.getElem?_replicate, if_pos hi] at e; cases e
              · rw [Array.getElem?_replicate, if_neg hi] at e; cases e
            · refine Nat.le_trans (List.length_filter_le _ _) (by simp)
          have hdraw : DrawR C.P R' cs.length η ops ⟨ops.toList, anc, V, actsOf C.P ops.toList 0, 0⟩ tm tmps (fun _ => False) :=
            { ops := rfl, anc := hanc, len := c2', grd := c3, dst := by rw [hn]; exact c1
              closed := fun i h => h.elim
              acts := fun i => by
                show i ∈ actsOf C.P ops.toList 0 ↔ _
                rw [actsOf_spec]
                constructor
                · rintro ⟨k, o, h1, h2, h3⟩; rw [Nat.zero_add] at h3; subst h3; exact ⟨o, h1, h2, fun h => h⟩
                · rintro ⟨o, h1, h2, _⟩; exact ⟨i, o, h1, h2, by omega⟩
              fin := fun i h => by rw [show bit (0 : Nat) i = false from bit_zero i] at h; cases h
              dom := fun i h => h.elim
              val := fun i v _ h => h.elim
              old := fun t v hv _ => ht t v hv
              res := fun i o e h1 h2 _ => by
                obtain ⟨q1, b, q2, q3, _⟩ := k4 i o e h1 h2
                rw [Nat.zero_add] at q2
                exact ⟨q1, b, q2, q3⟩
              resInj := fun i j o o' e e' b hij h1 h2 _ h3 h4 _ h5 h6 => by
                rcases Nat.lt_or_gt_of_ne hij with hlt | hlt
                · exact k5 i j o o' e e' b hlt h1 h2 h3 h4 (by rw [Nat.zero_add]; exact h5) (by rw [Nat.zero_add]; exact h6)
                · exact k5 j i o' o e' e b hlt h3 h4 h1 h2 (by rw [Nat.zero_add]; exact h6) (by rw [Nat.zero_add]; exact h5) }
          refine ⟨_, .one sk_region_draw, η, R', _, fs, _, rfl, FR.of hn hd ho ?_, hfs.mono (Env.le_refl _) fun q b _ hq => k2 q b hq, k1, hg, hb⟩
          exact ⟨_, _, ks, rfl, hk, hdraw, hlin⟩
        · cases h
    · cases h

theorem FRs.free {R' : Nat → Option Nat} (h : FRs C.P R η cs fs) (hR : ∀ q b, q ≠ cs.length → R b = some q → R' b = some q) {η' : Env} (hle : η.le η') : FRs C.P R' η' cs fs :=
  h.mono hle fun q b hq hb => hR q b (Nat.ne_of_lt hq) hb

/-- A new round of a loop. -/
theorem setPs_spec : ∀ {ps : List Tmp} {vs : List AV} {A A' : T AV} {N : Nat} {tmps : Array Value} {xs : List Value}, setPs ps vs A N = some A' → TR η A tmps → tmps.size = N → VRs η vs xs →
    ps.length = xs.length ∧ TR η A' ((ps.zip xs).foldl (fun tmps (q : Tmp × Value) => tmps.setIfInBounds q.1 q.2) tmps) ∧ ((ps.zip xs).foldl (fun tmps (q : Tmp × Value) => tmps.setIfInBounds q.1 q.2) tmps).size = N
  | [], [], A, A', N, tmps, xs, h, ht, hn, hx => by
    cases h
    simp only [VRs] at hx; subst hx
    exact ⟨rfl, ht, hn⟩
  | [], _ :: _, A, A', N, tmps, xs, h, ht, hn, hx => by cases h
  | _ :: _, [], A, A', N, tmps, xs, h, ht, hn, hx => by cases h
  | q :: ps, v :: vs, A, A', N, tmps, xs, h, ht, hn, hx => by
    simp only [VRs] at hx
    obtain ⟨x, xs', rfl, h1, h2⟩ := hx
    rw [setPs] at h
    cases hb : Nat.blt q N <;> rw [hb] at h <;> simp only [cond_false, cond_true] at h
    · cases h
    · have hlt : q < tmps.size := by rw [hn]; exact Nat.le_of_ble_eq_true hb
      obtain ⟨k1, k2, k3⟩ := setPs_spec (tmps := tmps.setIfInBounds q x) h (ht.set h1 hlt) (by simpa using hn) h2
      exact ⟨by simp [k1], k2, k3⟩
theorem round_sound {a : AFrame} {f : Frame} {l : Nat} {m : Loc} {args : List AV} {xs : Array Value} {s : Sem Next} {s' : AState} {mm : Machine}
    (h : roundA l args a cs H nx = some s') (hl : η l = some m) (hr : s.run C.P w = (Instr.yield m.B xs).run C.P w) (hx : VRs η args xs.toList)
    (hs : ∀ g ts x y w', s.run C.P w = .ok (.round m.B g ts x y) w' → step C.P mm = .next (lone (Frame.round m.B g ts x y .normal) (f :: fs ++ cs0) w'))
    (hf : FR C.P R cs.length η a f) (hfs : FRs C.P R η cs fs) (hh : HR C.P ⟨W, R⟩ η H nx w) (hg : GR η C.ng) (hb : lastFn a.fn cs = f0) : Goes C W f0 cs0 mm s' := by
  unfold roundA at h
  split at h
  · rename_i st fn tm N params assign body d hH
    split at h
    · rename_i tm' hps; cases h
      obtain ⟨_, _, lp, hw, k1, k2, k3, k4, k5, k6, k7, k8, k9⟩ := hh.blk l _ m hH hl
      simp only at k3 k4 k5 k6 k7 k8
      obtain ⟨j1, j2, j3⟩ := setPs_spec (tmps := lp.tmps) hps k4 k5 hx
      have hrun : s.run C.P w = .ok (.round m.B fn ((lp.params.zip xs).foldl (fun tmps (t, a) => tmps.setIfInBounds t a) lp.tmps) assign body) w := by
        rw [hr]
        have hsz : xs.size = lp.params.size := by rw [k6]; simpa using j1.symm
        simp only [Instr.yield, Instr.getLoop, Sem.run_bind, run_getObj' hw (fun c e f h => by cases h), Result.andThen_ok, Sem.run_pure, hsz, ne_eq, not_true_eq_false, if_false, k3, k7, k8]
      have hfold : (lp.params.zip xs).foldl (fun tmps (t, a) => tmps.setIfInBounds t a) lp.tmps = (params.toList.zip xs.toList).foldl (fun tmps (q : Tmp × Value) => tmps.setIfInBounds q.1 q.2) lp.tmps := by
        rw [← Array.foldl_toList, Array.toList_zip, k6]
      refine ⟨_, .one (hs _ _ _ _ _ hrun), η, R, _, f :: fs, w, rfl, ?_, ⟨f, fs, rfl, hf, hfs⟩, hh, hg, hb⟩
      rw [hfold]
      exact FR.of (kind := false) (rO := some m.B) (ds := []) (its := [.code assign, .beginRound, .code body]) j3 rfl ⟨m, hl, rfl⟩ (TodoR.of j2 ⟨_, _, rfl, rfl, _, _, rfl, rfl, _, _, rfl, rfl, rfl⟩)
    · cases h
  · cases h

theorem stepDraw_sound (hG : C.Good) {ops : Array Oper} {d : Draw} {s' : AState} (h : stepDraw C ops d k fn tm N df kind ro cs H nx = some s') {D : Nat → Prop} {L : List Nat}
    (hD : DrawR C.P R cs.length η ops d tm tmps D) (hL : Lin d.ops D L) (hk : IRs η k ks) (hn : tmps.size = N) (hd : DRs η df ds) (ho : ROR η ro rO) (hfs : FRs C.P R η cs fs) (hh : HR C.P ⟨W, R⟩ η H nx w) (hg : GR η C.ng) (hb : lastFn fn cs = f0) :
    Goes C W f0 cs0 (lone (mkF fn tmps (.inRegion ops L :: ks) ds (kd kind) rO) (fs ++ cs0) w) s' := by
  obtain ⟨os, anc, V, acts, fin⟩ := d
  have hlen : os.length ≤ 4096 := hD.len
  have hanc : ancs os [] = some anc := hD.anc
  unfold stepDraw at h
  simp only at h
  split at h
  · rename_i V' hst
    obtain ⟨_, g2, g3⟩ := stageA_spec (fun k m j h1 h2 => anc_lt hanc k h1 h2) hst (by omega) (fun k => by rw [Nat.zero_add])
    have hD1 := hD.stage g2
    have good : ∀ i o mi, os[i]? = some o → anc[i]? = some mi → acting C.P o.op = false → bit fin i = false → (mi &&& maskOf acts).beq 0 = true → Good1 C.P C.ng tm os anc H V' V' i mi o := fun i o mi h1 h2 h3 h4 h5 => by
      have := g3 i o mi h1 (by rw [Nat.zero_add]; exact h2) h3 (by rw [Nat.zero_add]; exact h4) h5
      rwa [Nat.zero_add] at this
    obtain ⟨D', L', tmps', R', η', w', k1, k2, k3, k4, k5, k6, k7, k8⟩ := draw_walk (fn := fn) (ds := ds) (kind := kd kind) (ro := rO) (cs := fs ++ cs0) (ks := ks) (d := ⟨os, anc, V', acts, fin⟩) good hL hD1 hh hg
    refine Goes.of_steps k2 ?_
    have hk' := hk.mono k1
    have hn' : tmps'.size = N := k8.trans hn
    have hd' := hd.mono k1
    have ho' := ho.mono k1
    have hfs' : FRs C.P R' η' cs fs := hfs.free (fun q b hq hb => k6 q b hq hb) k1
    have hg' := hg.mono k1
    split at h
    · -- all is done
      split at h
      · rename_i tm' hov; cases h
        have hLnil : L' = [] := by
          rcases k7 with k7 | ⟨i, L'', o, e1, e2, e3⟩
          · exact k7
          · rw [e1] at k4
            cases k4 with
            | cons _ hi _ _ =>
              have : i ∈ ([] : List Nat) := (k3.acts i).2 ⟨o, e2, e3, hi⟩
              cases this
        subst hLnil
        cases k4 with
        | nil hall =>
          refine ⟨_, .one sk_region_end, η', R', _, fs, w', rfl, FR.of hn' hd' ho' (TodoR.of (fun t v hv => ?_) hk'), hfs', k5, hg', hb⟩
          rcases overlay_spec hov hv with ⟨j, o, j1, j2, j3⟩ | ⟨j1, j2⟩
          · rw [Nat.zero_add] at j3
            obtain ⟨o', m1, m2⟩ := k3.val j v j3 (hall j (List.getElem?_eq_some_iff.1 j1).1)
            have m1' : os[j]? = some o' := m1
            rw [j1] at m1'; cases m1'
            exact m2 t j2
          · exact k3.old t v j1 fun i o h1 h2 _ => j2 i o h1 h2
      · cases h
    · rename_i a rest
      split at h
      · rename_i o hoa
        split at h
        · rename_i ma hma
          cases hc : (behind anc a rest && (ma &&& maskOf (a :: rest)).beq 0) <;> rw [hc] at h <;> simp only [cond_false, cond_true] at h
          · cases h
          · rw [Bool.and_eq_true] at hc
            have hbeh := hc.1
            rw [nth_eq] at hoa
            have hma' := hma
            rw [nth_eq] at hma'
            obtain ⟨_, _, _, hna⟩ := (k3.acts a).1 List.mem_cons_self
            have hLa : ∃ L'', L' = a :: L'' := by
              rcases k7 with k7 | ⟨i, L'', o', e1, e2, e3⟩
              · subst k7
                cases k4 with
                | nil hall => exact absurd (hall a (List.getElem?_eq_some_iff.1 hoa).1) hna
              · rw [e1] at k4
                cases k4 with
                | cons hoi hi hp _ =>
                  rcases List.mem_cons.1 ((k3.acts i).2 ⟨o', e2, e3, hi⟩) with e | e
                  · subst e; exact ⟨L'', e1⟩
                  · obtain ⟨m, j1, j2⟩ := behind_spec hbeh i e
                    exact absurd (anc_ready k3.anc k3.closed hoi hp j1 j2) hna
            obtain ⟨L'', rfl⟩ := hLa
            have hpa : ∀ e ∈ o.after, Region.binds .any e = true → D' e.on := by
              cases k4 with
              | cons hoi _ hp _ =>
                have hoi' : os[a]? = some _ := hoi
                rw [hoa] at hoi'; cases hoi'
                exact hp
            have hops : ops[a]? = some o := by
              rw [← Array.getElem?_toList, ← k3.ops]; exact hoa
            have hfin : ∀ v, (mkF fn tmps' (.inRegion ops (a :: L'') :: ks) ds (kd kind) rO).finish v = mkF fn ((⟨tmps', ds⟩ : Act).put o.dst v).tmps (.inRegion ops L'' :: ks) ds (kd kind) rO := fun v => finish_op hops v
            -- one acting operation has given its value
            have done : ∀ {η2 : Env} {w2 : World} {H2 : T Blk} {nx2 : Nat} {u : AV} {x : Value}, η'.le η2 → step C.P (lone (mkF fn tmps' (.inRegion ops (a :: L'') :: ks) ds (kd kind) rO) (fs ++ cs0) w') = .next (lone ((mkF fn tmps' (.inRegion ops (a :: L'') :: ks) ds (kd kind) rO).finish x) (fs ++ cs0) w2) →
                VR η2 u x → HR C.P ⟨W, R'⟩ η2 H2 nx2 w2 → some (AState.go ⟨fn, tm, N, .draw ops (Draw.next ⟨os, anc, V', a :: rest, fin⟩ a ma u) :: k, df, .run, kind, ro⟩ cs H2 nx2) = some s' →
                Goes C W f0 cs0 (lone (mkF fn tmps' (.inRegion ops (a :: L'') :: ks) ds (kd kind) rO) (fs ++ cs0) w') s' := by
              intro η2 w2 H2 nx2 u x hle hs hu hh2 he
              cases he
              obtain ⟨o2, m1, m2, m3⟩ := (k3.mono (R' := R') hle fun _ h => h).next (ds := ds) k4 rfl hbeh hma hu
              have m1' : os[a]? = some o2 := m1
              rw [hoa] at m1'; cases m1'
              rw [hfin] at hs
              refine ⟨_, .one hs, η2, R', _, fs, w2, rfl, FR.of (put_size.trans hn') (hd'.mono hle) (ho'.mono hle) ⟨_, L'', ks, rfl, hk'.mono hle, m2, m3⟩, hfs'.mono hle (fun _ _ _ h => h), hh2, hg'.mono hle, hb⟩
            unfold stepDraw2 at h
            split at h
            · rename_i hw
              have hwt := k3.want hoa hpa hma' hw
              have hs0 := sk_op (P := C.P) (fn := fn) (ds := ds) (kind := kd kind) (ro := rO) (cs := fs ++ cs0) (w := w') (ks := ks) (L := L'') hops hwt
              have henv := k3.env hoa hpa hna hma'
              have nodef : ∀ {r : Out}, aop C.Fn C.E C.P C.ng (envAt anc V' a ma os 0 tm) H nx o.op = some r → (∀ d, r ≠ .defer d) → o.semAt rO (⟨tmps', ds⟩ : Act).eval = execOp (⟨tmps', ds⟩ : Act).eval o := fun hr hne =>
                Oper.semAt_eq _ _ _ fun c e => by obtain ⟨d, hd⟩ := aop_defer hr c e; exact hne d hd
              have hfr : FR C.P R' cs.length η' ⟨fn, tm, N, .drawCall ops ⟨os, anc, V', a :: rest, fin⟩ a :: k, df, .run, kind, ro⟩ (mkF fn tmps' (.inRegion ops (a :: L'') :: ks) ds (kd kind) rO) :=
                FR.of hn' hd' ho' ⟨D', L'', ks, rest, rfl, hk', k3, k4, rfl, hbeh⟩
              split at h
              · rename_i v H2 nx2 hop
                obtain ⟨η2, w2, x, m1, m2, m3, m4⟩ := k5.aop (a := ⟨tmps', ds⟩) hG hg' henv hop
                rw [nodef hop fun d e => by cases e] at hs0
                exact done m1 (step_val hs0 m2) m3 m4 h
              · rename_i H2 nx2 hop
                obtain ⟨η2, w2, m1, m2, m4⟩ := k5.aop (a := ⟨tmps', ds⟩) hG hg' henv hop
                rw [nodef hop fun d e => by cases e] at hs0
                exact done m1 (step_skip' hs0 m2) VR.undef m4 h
              · rename_i g args hop
                obtain ⟨xs, m1, m2⟩ := k5.aop (a := ⟨tmps', ds⟩) hG hg' henv hop
                rw [nodef hop fun d e => by cases e] at hs0
                have h' : Option.casesOn (motive := fun _ => Option AState) (C.sm g args) (enterA C g args false ⟨fn, tm, N, .drawCall ops ⟨os, anc, V', a :: rest, fin⟩ a :: k, df, .run, kind, ro⟩ cs H nx) (fun v => goA (finA ⟨fn, tm, N, .drawCall ops ⟨os, anc, V', a :: rest, fin⟩ a :: k, df, .run, kind, ro⟩ v) cs H nx) = some s' := h
                rw [hG.sm] at h'
                exact enter_sound hG (kind := false) h' (step_enter' rfl hs0 m1) m2 hfr hfs' k5 hg' hb
              · rename_i l args hop
                obtain ⟨m, xs, m0, m1, m2⟩ := k5.aop (a := ⟨tmps', ds⟩) hG hg' henv hop
                rw [nodef hop fun d e => by cases e] at hs0
                exact round_sound h m0 m1 m2 (fun g ts x y w2 hr => step_round' hs0 hr) hfr hfs' k5 hg' hb
              · cases h
            · rename_i hw
              have hwt := k3.want hoa hpa hma' hw
              refine done (Env.le_refl _) (sk_op_skip (by simp [hops, hwt])) VR.undef k5 h
            · cases h
        · cases h
      · cases h
  · cases h
end
end
end Go.Proofs.YtepkidlndboakaaGreatDoor.Sim
