/-
  SIM, PART M. Regions in the order of their text.
-/
import Derived.Test.YtepkidlndboakaaGreatDoorSimL
namespace Go.Proofs.YtepkidlndboakaaGreatDoor.Sim
open Go.RowKit (Below)
noncomputable section

section
variable {P : Program} {fn : FuncId} {tmps : Array Value} {ds : List Deferred} {kind : CallKind} {ro : Option Nat} {cs : List Frame} {w : World} {η : Env}

theorem VR.undef : VR η (.tuple []) undef := by
  show VR η (.tuple []) (.tuple #[])
  simp [VR, VRs]
theorem putT_spec {dst : Option Tmp} {v : AV} {A A' : T AV} {N : Nat} {x : Value} (h : putT dst v A N = some A') (ht : TR η A tmps) (hn : tmps.size = N) (hv : VR η v x) :
    TR η A' ((⟨tmps, ds⟩ : Act).put dst x).tmps ∧ ((⟨tmps, ds⟩ : Act).put dst x).tmps.size = N := by
  cases dst with
  | none => cases h; exact ⟨ht, hn⟩
  | some d =>
    have h' : Bool.casesOn (motive := fun _ => Option (T AV)) (Nat.ble (Nat.succ d) N) none (some (A.set v d)) = some A' := h
    cases hb : Nat.ble (Nat.succ d) N with
    | false => rw [hb] at h'; cases h'
    | true =>
      rw [hb] at h'; cases h'
      have hlt : d < tmps.size := by rw [hn]; exact Nat.le_of_ble_eq_true hb
      exact ⟨ht.set hv hlt, by simp [Act.put, hn]⟩
theorem yesNo_spec {b r : Bool} {v : AV} {x : Value} (h : yesNo b v = some r) (hv : VR η v x) : ((match x with | .bool c => some c | _ => none : Option Bool) == some b) = r := by
  cases v with
  | bool c =>
    simp only [VR] at hv; subst hv
    have h' : some (Bool.casesOn (motive := fun _ => Bool) c (Bool.casesOn (motive := fun _ => Bool) b true false) b) = some r := h
    cases h'
    cases c <;> cases b <;> rfl
  | tuple l =>
    cases l with
    | nil =>
      simp only [VR, VRs] at hv
      obtain ⟨xs, rfl, _⟩ := hv
      have h' : some false = some r := h
      cases h'; rfl
    | cons u l => cases h
  | _ => cases h
theorem wantedA_spec {ops : Array Oper} {tm : T AV} (ht : TR η tm tmps) {o : Oper} {b : Bool} (h : wantedA ops.toList tm o.guard = some b) : Region.wanted o (yielded ops tmps) = b := by
  unfold Region.wanted
  cases hg : o.guard with
  | none => rw [hg] at h; cases h; rfl
  | some p =>
    rw [hg] at h
    obtain ⟨g, h1, h⟩ := bnd_some.1 h
    obtain ⟨t, h2, h⟩ := bnd_some.1 h
    obtain ⟨v, h3, h⟩ := bnd_some.1 h
    obtain ⟨j, want⟩ := p
    rw [nthF_eq, nth_eq, Array.getElem?_toList] at h1
    obtain ⟨x, hx, hv⟩ := ht t v h3
    have h4 := yesNo_spec h hv
    simp only [yielded, h1, Option.bind_some, h2, hx]
    rw [← h4]
    cases x <;> rfl
theorem aop_defer {Fn : T Func} {E : T Ext} {ng : Nat} {A : T AV} {H : T Blk} {nx : Nat} {op : Op} {r : Out} (h : aop Fn E P ng A H nx op = some r) (c : Call) (hc : op = .defer c) : ∃ d, r = .defer d := by
  subst hc
  have h' : oDefer ng A c = some r := h
  unfold oDefer at h'
  split at h'
  · split at h'
    · split at h'
      · cases h'; exact ⟨_, rfl⟩
      · cases h'
    · cases h'
  · cases h'

/-- A region in its text's order has come to its end, or to an operation that is no plain one. -/
def RStop.ok (P : Program) (W0 : Base) (fn : FuncId) (ds : List Deferred) (kind : CallKind) (ro : Option Nat) (ops : Array Oper) (ks : List Item) (cs : List Frame) (N : Nat) (m : Machine) (η : Env) : RStop → Prop
  | .fin tm H nx => ∃ η' tmps w, η.le η' ∧ Steps P m (lone (mkF fn tmps (.inRegion ops [] :: ks) ds kind ro) cs w) ∧ tmps.size = N ∧ TR η' tm tmps ∧ HR P W0 η' H nx w
  | .out l tm H nx r => ∃ η' tmps w i o l', η.le η' ∧ Steps P m (lone (mkF fn tmps (.inRegion ops (i :: List.range' (i + 1) l'.length) :: ks) ds kind ro) cs w) ∧ l = o :: l' ∧
      ops.toList.drop i = o :: l' ∧ tmps.size = N ∧ TR η' tm tmps ∧ HR P W0 η' H nx w ∧ ops[i]? = some o ∧ Region.wanted o (yielded ops tmps) = true ∧
      r.ok P W0 η' w (execOp (⟨tmps, ds⟩ : Act).eval o) ∧ (∀ c, o.op = .defer c → ∃ d, r = .defer d)
theorem RStop.ok.of_steps {W0 : Base} {ops : Array Oper} {ks : List Item} {N : Nat} {m m1 : Machine} {η η1 : Env} {r : RStop} (h : Steps P m m1) (hle : η.le η1) (k : r.ok P W0 fn ds kind ro ops ks cs N m1 η1) :
    r.ok P W0 fn ds kind ro ops ks cs N m η := by
  cases r with
  | fin tm H nx => obtain ⟨η', tmps, w, k1, k2, k3⟩ := k; exact ⟨η', tmps, w, Env.le_trans hle k1, h.trans k2, k3⟩
  | out l tm H nx r => obtain ⟨η', tmps, w, i, o, l', k1, k2, k3⟩ := k; exact ⟨η', tmps, w, i, o, l', Env.le_trans hle k1, h.trans k2, k3⟩

theorem regL_sound {C : Cx} (hG : C.Good) {W0 : Base} {ops : Array Oper} {ks : List Item} {N : Nat} : ∀ {l : List Oper} {i : Nat} {tm : T AV} {H : T Blk} {nx : Nat} {r : RStop} {tmps : Array Value} {η : Env} {w : World},
    regL C ops.toList N l tm H nx = some r → ops.toList.drop i = l → tmps.size = N → TR η tm tmps → HR C.P W0 η H nx w → GR η C.ng →
    r.ok C.P W0 fn ds kind ro ops ks cs N (lone (mkF fn tmps (.inRegion ops (List.range' i l.length) :: ks) ds kind ro) cs w) η
  | [], i, tm, H, nx, r, tmps, η, w, h, _, hn, ht, hh, _ => by
    cases h
    exact ⟨η, tmps, w, Env.le_refl _, .refl _ _, hn, ht, hh⟩
  | o :: l, i, tm, H, nx, r, tmps, η, w, h, hd, hn, ht, hh, hg => by
    have ho : ops[i]? = some o := by
      rw [← Array.getElem?_toList]
      have := congrArg (fun l => l[0]?) hd
      simpa using this
    have hd' : ops.toList.drop (i + 1) = l := by
      have := congrArg List.tail hd
      simpa using this
    have hrun : List.range' i (o :: l).length = i :: List.range' (i + 1) l.length := by rw [List.length_cons, List.range'_succ]
    have h' : regStep C ops.toList N o l (regL C ops.toList N l) tm H nx = some r := h
    have hfin : ∀ v, (mkF fn tmps (.inRegion ops (i :: List.range' (i + 1) l.length) :: ks) ds kind ro).finish v = mkF fn ((⟨tmps, ds⟩ : Act).put o.dst v).tmps (.inRegion ops (List.range' (i + 1) l.length) :: ks) ds kind ro := fun v => finish_op ho v
    obtain ⟨dst, op, type, pos, after, guard⟩ := o
    obtain ⟨b, hb, h2⟩ := bnd_some.1 h'
    have hw := wantedA_spec (o := ⟨dst, op, type, pos, after, guard⟩) ht hb
    rw [hrun]
    cases b with
    | false =>
      obtain ⟨tm', h3, h4⟩ := bnd_some.1 h2
      obtain ⟨k1, k2⟩ := putT_spec (ds := ds) h3 ht hn VR.undef
      refine RStop.ok.of_steps (.one ?_) (Env.le_refl _) (regL_sound hG h4 hd' k2 k1 hh hg)
      have := sk_op_skip (P := C.P) (fn := fn) (tmps := tmps) (ds := ds) (kind := kind) (ro := ro) (cs := cs) (w := w) (ks := ks) (ops := ops) (i := i) (L := List.range' (i + 1) l.length) (by simp [ho, hw])
      rw [hfin] at this
      exact this
    | true =>
      obtain ⟨q, h3, h4⟩ := bnd_some.1 h2
      have hq := hh.aop (a := ⟨tmps, ds⟩) (o := ⟨dst, op, type, pos, after, guard⟩) hG hg ht h3
      have hs := sk_op (P := C.P) (fn := fn) (ds := ds) (kind := kind) (ro := ro) (cs := cs) (w := w) (ks := ks) (L := List.range' (i + 1) l.length) ho hw
      have hdef := aop_defer h3
      have stop : ∀ q', q = q' → some (RStop.out (⟨dst, op, type, pos, after, guard⟩ :: l) tm H nx q') = some r →
          r.ok C.P W0 fn ds kind ro ops ks cs N (lone (mkF fn tmps (.inRegion ops (i :: List.range' (i + 1) l.length) :: ks) ds kind ro) cs w) η := by
        intro q' e1 e2
        subst e1
        cases e2
        exact ⟨η, tmps, w, i, _, l, Env.le_refl _, .refl _ _, rfl, hd, hn, ht, hh, ho, hw, hq, hdef⟩
      cases q with
      | val v H' nx' =>
        obtain ⟨tm', h5, h6⟩ := bnd_some.1 h4
        obtain ⟨η', w', x, k1, k2, k3, k4⟩ := hq
        obtain ⟨k5, k6⟩ := putT_spec (ds := ds) h5 (ht.mono k1) hn k3
        refine RStop.ok.of_steps (.one ?_) k1 (regL_sound hG h6 hd' k6 k5 k4 (hg.mono k1))
        rw [Oper.semAt_eq _ _ _ (fun c e => by obtain ⟨d, hd⟩ := hdef c e; cases hd)] at hs
        have := step_val hs k2
        rw [hfin] at this
        exact this
      | skip H' nx' =>
        obtain ⟨tm', h5, h6⟩ := bnd_some.1 h4
        obtain ⟨η', w', k1, k2, k4⟩ := hq
        obtain ⟨k5, k6⟩ := putT_spec (ds := ds) h5 (ht.mono k1) hn VR.undef
        refine RStop.ok.of_steps (.one ?_) k1 (regL_sound hG h6 hd' k6 k5 k4 (hg.mono k1))
        rw [Oper.semAt_eq _ _ _ (fun c e => by obtain ⟨d, hd⟩ := hdef c e; cases hd)] at hs
        have := step_skip' hs k2
        rw [hfin] at this
        exact this
      | enter f args => exact stop _ rfl h4
      | round l args => exact stop _ rfl h4
      | defer d => exact stop _ rfl h4
      | recover => exact stop _ rfl h4
      | panic v => exact stop _ rfl h4

end
end
end Go.Proofs.YtepkidlndboakaaGreatDoor.Sim
