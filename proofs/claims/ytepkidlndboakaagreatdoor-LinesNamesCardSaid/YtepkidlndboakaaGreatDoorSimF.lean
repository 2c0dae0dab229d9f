/-
  SIM, PART F. All quiet operations under one name.
-/
import Derived.Test.YtepkidlndboakaaGreatDoorSimE
namespace Go.Proofs.YtepkidlndboakaaGreatDoor.Sim
open Go.RowKit (Below)
noncomputable section

def cst : Operand → Bool
  | .const _ => true
  | _ => false
def opvO (ng : Nat) (A : T AV) : Option Operand → Option (Option AV)
  | none => some none
  | some o => match opv ng A o with
    | some v => some (some v)
    | none => none

/-- The value of an operation that leaves the world as it is. -/
def quiet (P : Program) (ng : Nat) (A : T AV) (H : T Blk) : Op → Option AV
  | .move x => opv ng A x
  | .assign x => opv ng A x
  | .pick c a b => match opv ng A c with
    | some (.bool t) => bif t then opv ng A a else opv ng A b
    | _ => none
  | .build t parts => match opvs ng A (parts.toList.map (·.2)) with
    | some vs => qBuild P t (zipParts parts.toList vs)
    | none => none
  | .load t a => match opv ng A a with
    | some v => qLoad P H t v
    | none => none
  | .nilCheck x => match opv ng A x with
    | some (.ptr b o) => some (.ptr b o)
    | some (.func f a c) => some (.func f a c)
    | some (.yield l) => some (.yield l)
    | _ => none
  | .binOp op t x y _ => match opv ng A x with
    | some u => match opv ng A y with
      | some v => qBin P op t (cst x || cst y) u v
      | none => none
    | none => none
  | .unOp op _ x => match opv ng A x with
    | some v => qUn op v
    | none => none
  | .convert s d x => match opv ng A x with
    | some v => qConv P H s d v
    | none => none
  | .makeInterface t x => match opv ng A x with
    | some v => qPlainIface P t v
    | none => none
  | .makeFunc (.func f) first captured => match opvs ng A first.toList with
    | some us => match opvs ng A captured.toList with
      | some vs => some (.func f us vs)
      | none => none
    | none => none
  | .slice t x lo hi mx => match opv ng A x with
    | some v => match opvO ng A lo with
      | some l => match opvO ng A hi with
        | some h => match opvO ng A mx with
          | some m => qSlice P t l h m v
          | none => none
        | none => none
      | none => none
    | none => none
  | .fieldAddr s x f => match opv ng A x with
    | some v => qFieldAddr P s f v
    | none => none
  | .field t x f => match opv ng A x with
    | some v => qField P t f v
    | none => none
  | .indexAddr t x i => match opv ng A x with
    | some u => match opv ng A i with
      | some v => qIndexAddr P t u v
      | none => none
    | none => none
  | .index t x i => match opv ng A x with
    | some u => match opv ng A i with
      | some v => qIndex P t u v
      | none => none
    | none => none
  | .lookup t x i ok => match opv ng A x with
    | some u => match opv ng A i with
      | some v => qLookup P H t ok u v
      | none => none
    | none => none
  | .typeAssert x _ s ok => match opv ng A x with
    | some v => qAssert P s ok v
    | none => none
  | .extract x i => match opv ng A x with
    | some v => qExtract i v
    | none => none
  | .call { callee := .builtin .len, args, argTypes } => match argTypes.toList with
    | t :: _ => match args.toList with
      | x :: _ => match opv ng A x with
        | some v => qLen P t v
        | none => none
      | _ => none
    | _ => none
  | .call { callee := .builtin .cap, args, argTypes } => match argTypes.toList with
    | t :: _ => match args.toList with
      | x :: _ => match opv ng A x with
        | some v => qCap P t v
        | none => none
      | _ => none
    | _ => none
  | .call { callee := .builtin .min, args, .. } => match opvs ng A args.toList with
    | some vs => qMin vs
    | none => none
  | .call { callee := .builtin .unsafeSliceData, args, .. } => match args.toList with
    | [x] => match opv ng A x with
      | some v => qSliceData v
      | none => none
    | _ => none
  | _ => none

section
variable {P : Program} {W0 : Base} {η : Env} {H : T Blk} {nx ng : Nat} {w : World} {A : T AV} {a : Act}

theorem opvO_BV (hg : GR η ng) (ht : TR η A a.tmps) {o : Option Operand} {v : Option AV} (h : opvO ng A o = some v) : BV η v (o.map a.eval) := by
  unfold opvO at h
  split at h
  · cases h; rfl
  · split at h
    · rename_i v' hv; cases h; exact ⟨_, rfl, opv_VR hg ht hv⟩
    · cases h
theorem cst_spec {x y : Operand} : (cst x || cst y) = true → ((x matches .const _) || (y matches .const _)) = true := by
  intro h
  cases x <;> cases y <;> first | rfl | exact absurd (show false = true from h) (by decide)

theorem quiet_run (h : HR P W0 η H nx w) (hg : GR η ng) (ht : TR η A a.tmps) {o : Oper} {v : AV} (hq : quiet P ng A H o.op = some v) :
    ∃ x, (execOp a.eval o).run P w = .ok (.value x) w ∧ VR η v x := by
  obtain ⟨dst, op, type, pos, after, guard⟩ := o
  simp only at hq
  unfold quiet at hq
  split at hq
  · exact ⟨_, rfl, opv_VR hg ht hq⟩
  · exact ⟨_, rfl, opv_VR hg ht hq⟩
  · rename_i c x y
    split at hq
    · rename_i t hc
      have h1 := opv_VR hg ht hc
      simp only [VR] at h1
      cases t <;> simp only [cond_true, cond_false] at hq
      · exact ⟨_, by simp [execOp, h1, asBool], opv_VR hg ht hq⟩
      · exact ⟨_, by simp [execOp, h1, asBool], opv_VR hg ht hq⟩
    · cases hq
  · rename_i t parts
    split at hq
    · rename_i vs hvs
      have h1 := opvs_VRs hg ht hvs
      obtain ⟨h2, h3⟩ := zipParts_spec (ρ := a.eval) h1
      obtain ⟨x, h4, h5⟩ := run_qBuild (w := w) hq h2 h3
      refine ⟨x, ?_, h5⟩
      have e : parts.map (fun x : Nat × Operand => (x.1, a.eval x.2)) = (parts.toList.map fun p => (p.1, a.eval p.2)).toArray := by
        apply Array.ext'; simp
      have h4' : (Instr.build t (parts.map fun x : Nat × Operand => (x.1, a.eval x.2))).run P w = .ok x w := by rw [e]; exact h4
      simp only [execOp, Sem.run_bind]
      rw [h4']; rfl
    · cases hq
  · split at hq
    · rename_i u hu
      obtain ⟨x, h1, h2⟩ := h.qLoad hq (opv_VR hg ht hu)
      exact ⟨x, by simp only [execOp, Sem.run_bind, h1, Result.andThen_ok, Sem.run_pure], h2⟩
    · cases hq
  · split at hq
    · rename_i b o hx; cases hq
      have h1 := opv_VR hg ht hx
      have h2 := h1
      simp only [VR] at h1; obtain ⟨l, hl, he⟩ := h1
      exact ⟨_, by simp [execOp, he]; rfl, by rw [← he]; exact h2⟩
    · rename_i f fs cs hx; cases hq
      have h1 := opv_VR hg ht hx
      have h2 := h1
      simp only [VR] at h1; obtain ⟨l, m, he, _, _⟩ := h1
      exact ⟨_, by simp [execOp, he]; rfl, by rw [← he]; exact h2⟩
    · rename_i l hx; cases hq
      have h1 := opv_VR hg ht hx
      have h2 := h1
      simp only [VR] at h1; obtain ⟨l, hl, he⟩ := h1
      exact ⟨_, by simp [execOp, he]; rfl, by rw [← he]; exact h2⟩
    · cases hq
  · rename_i op t x y yt
    split at hq
    · rename_i u hu
      split at hq
      · rename_i v' hv
        obtain ⟨h1, z, h2, h3⟩ := run_qBin (w := w) hq (opv_VR hg ht hu) (opv_VR hg ht hv) (ox := x) (oy := y) cst_spec
        exact ⟨z, by simp only [execOp, Sem.run_bind, h1, h2, Result.andThen_ok, Sem.run_pure], h3⟩
      · cases hq
    · cases hq
  · split at hq
    · rename_i u hu
      obtain ⟨z, h1, h2⟩ := run_qUn (P := P) (w := w) hq (opv_VR hg ht hu)
      exact ⟨z, by simp only [execOp, Sem.run_bind, h1, Result.andThen_ok, Sem.run_pure], h2⟩
    · cases hq
  · split at hq
    · rename_i u hu
      obtain ⟨z, h1, h2⟩ := h.qConv hq (opv_VR hg ht hu)
      exact ⟨z, by simp only [execOp, Sem.run_bind, h1, Result.andThen_ok, Sem.run_pure], h2⟩
    · cases hq
  · split at hq
    · rename_i u hu
      obtain ⟨z, h1, h2⟩ := run_qPlainIface (w := w) hq (opv_VR hg ht hu)
      exact ⟨z, by simp only [execOp, Sem.run_bind, h1, Result.andThen_ok, Sem.run_pure], h2⟩
    · cases hq
  · rename_i f first captured
    split at hq
    · rename_i us hus
      split at hq
      · rename_i vs hvs; cases hq
        refine ⟨.func (.func f) (first.map a.eval) (captured.map a.eval), rfl, ?_⟩
        simp only [VR]
        exact ⟨_, _, rfl, by simpa using opvs_VRs hg ht hus, by simpa using opvs_VRs hg ht hvs⟩
      · cases hq
    · cases hq
  · split at hq
    · rename_i u hu
      split at hq
      · rename_i l hl
        split at hq
        · rename_i hh hhh
          split at hq
          · rename_i m hm
            obtain ⟨z, h1, h2⟩ := run_qSlice (w := w) hq (opv_VR hg ht hu) (opvO_BV hg ht hl) (opvO_BV hg ht hhh) (opvO_BV hg ht hm)
            exact ⟨z, by simp only [execOp, Sem.run_bind, h1, Result.andThen_ok, Sem.run_pure], h2⟩
          · cases hq
        · cases hq
      · cases hq
    · cases hq
  · split at hq
    · rename_i u hu
      obtain ⟨z, h1, h2⟩ := run_qFieldAddr (w := w) hq (opv_VR hg ht hu)
      exact ⟨z, by simp only [execOp, Sem.run_bind, h1, Result.andThen_ok, Sem.run_pure], h2⟩
    · cases hq
  · split at hq
    · rename_i u hu
      obtain ⟨z, h1, h2⟩ := run_qField (w := w) hq (opv_VR hg ht hu)
      exact ⟨z, by simp only [execOp, Sem.run_bind, h1, Result.andThen_ok, Sem.run_pure], h2⟩
    · cases hq
  · split at hq
    · rename_i u hu
      split at hq
      · rename_i v' hv
        obtain ⟨z, h1, h2⟩ := run_qIndexAddr (w := w) hq (opv_VR hg ht hu) (opv_VR hg ht hv)
        exact ⟨z, by simp only [execOp, Sem.run_bind, h1, Result.andThen_ok, Sem.run_pure], h2⟩
      · cases hq
    · cases hq
  · split at hq
    · rename_i u hu
      split at hq
      · rename_i v' hv
        obtain ⟨z, h1, h2⟩ := run_qIndex (w := w) hq (opv_VR hg ht hu) (opv_VR hg ht hv)
        exact ⟨z, by simp only [execOp, Sem.run_bind, h1, Result.andThen_ok, Sem.run_pure], h2⟩
      · cases hq
    · cases hq
  · rename_i t x i ok
    split at hq
    · rename_i u hu
      split at hq
      · rename_i v' hv
        obtain ⟨z, h1, h2⟩ := h.qLookup (vi := a.eval i) hq (opv_VR hg ht hu)
        exact ⟨z, by simp only [execOp, Sem.run_bind, h1, Result.andThen_ok, Sem.run_pure], h2⟩
      · cases hq
    · cases hq
  · rename_i x xt s ok
    split at hq
    · rename_i u hu
      obtain ⟨z, h1, h2⟩ := run_qAssert (w := w) (xt := xt) hq (opv_VR hg ht hu)
      exact ⟨z, by simp only [execOp, Sem.run_bind, h1, Result.andThen_ok, Sem.run_pure], h2⟩
    · cases hq
  · split at hq
    · rename_i u hu
      obtain ⟨z, h1, h2⟩ := run_qExtract (P := P) (w := w) hq (opv_VR hg ht hu)
      exact ⟨z, by simp only [execOp, Sem.run_bind, h1, Result.andThen_ok, Sem.run_pure], h2⟩
    · cases hq
  · rename_i args argTypes
    split at hq
    · rename_i t ts hts
      split at hq
      · rename_i x xs hxs
        split at hq
        · rename_i u hu
          obtain ⟨z, h1, h2⟩ := run_qLen (w := w) (ts := ts) (rt := type) (xs := xs.map a.eval) hq (opv_VR hg ht hu)
          have e1 : argTypes = (t :: ts).toArray := by apply Array.ext'; simpa using hts
          have e2 : args.map a.eval = (a.eval x :: xs.map a.eval).toArray := by apply Array.ext'; simp [hxs]
          refine ⟨z, ?_, h2⟩
          simp only [execOp, resolve, Sem.run_bind, Sem.run_pure, Result.andThen_ok, invoke, builtin, e2, e1, h1]
        · cases hq
      · cases hq
    · cases hq
  · rename_i args argTypes
    split at hq
    · rename_i t ts hts
      split at hq
      · rename_i x xs hxs
        split at hq
        · rename_i u hu
          obtain ⟨z, h1, h2⟩ := run_qCap (w := w) (ts := ts) (rt := type) (xs := xs.map a.eval) hq (opv_VR hg ht hu)
          have e1 : argTypes = (t :: ts).toArray := by apply Array.ext'; simpa using hts
          have e2 : args.map a.eval = (a.eval x :: xs.map a.eval).toArray := by apply Array.ext'; simp [hxs]
          refine ⟨z, ?_, h2⟩
          simp only [execOp, resolve, Sem.run_bind, Sem.run_pure, Result.andThen_ok, invoke, builtin, e2, e1, h1]
        · cases hq
      · cases hq
    · cases hq
  · rename_i args argTypes
    split at hq
    · rename_i vs hvs
      obtain ⟨z, h1, h2⟩ := run_qMin (P := P) (w := w) (ts := argTypes) (rt := type) hq (opvs_VRs hg ht hvs)
      have e2 : args.map a.eval = (args.toList.map a.eval).toArray := by apply Array.ext'; simp
      refine ⟨z, ?_, h2⟩
      simp only [execOp, resolve, Sem.run_bind, Sem.run_pure, Result.andThen_ok, invoke, builtin, e2, h1]
    · cases hq
  · rename_i args argTypes
    split at hq
    · rename_i x hxs
      split at hq
      · rename_i u hu
        obtain ⟨z, h1, h2⟩ := run_qSliceData (P := P) (w := w) (ts := argTypes) (rt := type) hq (opv_VR hg ht hu)
        have e2 : args.map a.eval = #[a.eval x] := by apply Array.ext'; simp [hxs]
        refine ⟨z, ?_, h2⟩
        simp only [execOp, resolve, Sem.run_bind, Sem.run_pure, Result.andThen_ok, invoke, builtin, e2, h1]
      · cases hq
    · cases hq
  · cases hq

end
end
end Go.Proofs.YtepkidlndboakaaGreatDoor.Sim
