/-
  SIM, PART C. The operations that leave the world as it is.
-/
import Derived.Test.YtepkidlndboakaaGreatDoorSimB
namespace Go.Proofs.YtepkidlndboakaaGreatDoor.Sim
open Go.RowKit (Below)
noncomputable section

/-- The package-level variables have their own numbers. -/
def GR (η : Env) (ng : Nat) : Prop := ∀ g, g < ng → η g = some ⟨g, 0, 0⟩
theorem GR.mono {η η' : Env} (h : η.le η') {ng : Nat} (k : GR η ng) : GR η' ng := fun g hg => h _ _ (k g hg)

def opv (ng : Nat) (A : T AV) (o : Operand) : Option AV := Operand.casesOn (motive := fun _ => Option AV) o
  (fun t => A.get t) (fun v => ofV v) (fun g => Bool.casesOn (motive := fun _ => Option AV) (Nat.blt g ng) none (some (.ptr g 0))) (fun f => some (.func f [] []))
theorem opv_VR {η : Env} {ng : Nat} {A : T AV} {a : Act} (hg : GR η ng) (ht : TR η A a.tmps) {o : Operand} {v : AV} (h : opv ng A o = some v) : VR η v (a.eval o) := by
  cases o with
  | tmp t =>
    obtain ⟨x, hx, hv⟩ := ht t v h
    simp only [Act.eval, Array.getD_eq_getD_getElem?, hx]; exact hv
  | const v' => exact ofV_VR h
  | global g =>
    simp only [opv] at h
    cases hb : g.blt ng <;> simp only [hb] at h
    · cases h
    · cases h
      simp only [VR, Act.eval]
      exact ⟨_, hg g (Nat.le_of_ble_eq_true hb), by simp⟩
  | func f => simp only [opv] at h; cases h; simp only [VR, Act.eval]; exact ⟨#[], #[], rfl, by simp [VRs], by simp [VRs]⟩

def opvsC (ng : Nat) (A : T AV) : List Operand → Option (List AV)
  | [] => some []
  | o :: os => match opv ng A o with
    | some v => match opvsC ng A os with
      | some vs => some (v :: vs)
      | none => none
    | none => none
def opvs (ng : Nat) (A : T AV) (l : List Operand) : Option (List AV) := List.rec (motive := fun _ => Option (List AV)) (some [])
  (fun o _ ih => Option.casesOn (motive := fun _ => Option (List AV)) (opv ng A o) none fun v => Option.casesOn (motive := fun _ => Option (List AV)) ih none fun vs => some (v :: vs)) l
theorem opvs_nil (ng : Nat) (A : T AV) : opvs ng A [] = some [] := rfl
theorem opvs_cons (ng : Nat) (A : T AV) (o : Operand) (os : List Operand) : opvs ng A (o :: os) = match opv ng A o with
    | some v => match opvs ng A os with
      | some vs => some (v :: vs)
      | none => none
    | none => none := by
  show Option.casesOn (motive := fun _ => Option (List AV)) (opv ng A o) none (fun v => Option.casesOn (motive := fun _ => Option (List AV)) (opvs ng A os) none fun vs => some (v :: vs)) = _
  cases opv ng A o with
  | none => rfl
  | some v => cases opvs ng A os <;> rfl
theorem opvs_VRs {η : Env} {ng : Nat} {A : T AV} {a : Act} (hg : GR η ng) (ht : TR η A a.tmps) : ∀ {os : List Operand} {vs : List AV}, opvs ng A os = some vs → VRs η vs (os.map a.eval)
  | [], vs, h => by simp [opvs_nil] at h; subst h; simp [VRs]
  | o :: os, vs, h => by
    rw [opvs_cons] at h
    split at h
    · rename_i v hv
      split at h
      · rename_i us hus
        cases h
        simp only [List.map_cons, VRs]
        exact ⟨_, _, rfl, opv_VR hg ht hv, opvs_VRs hg ht hus⟩
      · cases h
    · cases h

/-! ### What a type says -/
def szOf (P : Program) (t : TypeId) : Option Nat := match P.info? t with | some i => some i.size | none => none
def aggOf (P : Program) (t : TypeId) : Option Bool := match P.underlying t with
  | some (.struct _) => some true
  | some (.array _ _) => some true
  | some _ => some false
  | none => none
section
variable {P : Program} {w : World}
theorem run_info {t : TypeId} {i : TypeInfo} (h : P.info? t = some i) : (typeInfo t).run P w = .ok i w := by simp [typeInfo, h]
theorem run_under {t : TypeId} {d : TypeDesc} (h : P.underlying t = some d) : (underlying t).run P w = .ok d w := by simp [underlying, h]
theorem run_size {t : TypeId} {n : Nat} (h : szOf P t = some n) : (sizeOf t).run P w = .ok n w := by
  unfold szOf at h
  split at h
  · rename_i i hi; cases h; simp [sizeOf, run_info hi]
  · cases h
theorem run_agg {t : TypeId} {b : Bool} (h : aggOf P t = some b) : (isAgg t).run P w = .ok b w := by
  unfold aggOf at h
  split at h
  · rename_i d hd; cases h; simp [isAgg, run_under hd]
  · rename_i d n hd; cases h; simp [isAgg, run_under hd]
  · rename_i d h1 h2 hd
    cases h
    simp only [isAgg, Sem.run_bind, run_under hd, Result.andThen_ok]
    cases d <;> first | rfl | exact absurd rfl (h1 _) | exact absurd rfl (h2 _ _)
  · cases h
theorem cellsOf_of {t : TypeId} {n : Nat} (h : szOf P t = some n) : P.cellsOf t = n := by
  unfold szOf at h
  split at h
  · rename_i i hi; cases h; simp [Program.cellsOf, hi]
  · cases h
end

/-- A type's zero value. -/
def zeroOf (P : Program) (t : TypeId) : Option AV := match P.info? t with
  | some i => match i.zero with
    | some v => ofV v
    | none => none
  | none => none
theorem run_zero {P : Program} {w : World} {t : TypeId} {v : AV} {η : Env} (h : zeroOf P t = some v) : ∃ x, (zeroValue t).run P w = .ok x w ∧ VR η v x := by
  unfold zeroOf at h
  split at h
  · rename_i i hi
    split at h
    · rename_i z hz; exact ⟨z, by simp [zeroValue, run_info hi, hz], ofV_VR h⟩
    · cases h
  · cases h

/-! ### Parts of values -/
def partOf (P : Program) (t : TypeId) (cs : List AV) (off : Nat) : Option AV := match aggOf P t with
  | some true => match szOf P t with
    | some n => some (.agg ((cs.drop off).take n))
    | none => none
  | some false => nth cs off
  | none => none
theorem extract_toList (xs : Array Value) (a b : Nat) : (xs.extract a b).toList = (xs.toList.drop a).take (b - a) := by
  simp [Array.toList_extract, List.extract]
theorem run_partOf {P : Program} {w : World} {η : Env} {t : TypeId} {cs : List AV} {xs : Array Value} {off : Nat} {v : AV} (h : partOf P t cs off = some v) (hx : VRs η cs xs.toList) :
    ∃ x, (part t xs off).run P w = .ok x w ∧ VR η v x := by
  unfold partOf at h
  split at h
  · rename_i ha
    split at h
    · rename_i n hn
      cases h
      refine ⟨.agg (xs.extract off (off + n)), by simp [part, run_agg ha, run_size hn], ?_⟩
      simp only [VR]
      refine ⟨_, rfl, ?_⟩
      rw [extract_toList]
      have := (hx.drop off).take n
      rwa [show off + n - off = n by omega]
    · cases h
  · rename_i ha
    rw [nth_eq] at h
    obtain ⟨x, hx', hv⟩ := hx.get off v h
    have e : xs[off]? = some x := by simpa using hx'
    exact ⟨x, by simp [part, run_agg ha, e], hv⟩
  · cases h

/-! ### Filling a value with parts -/
def placeB (P : Program) : List Field → Option (List (Nat × Nat))
  | [] => some []
  | f :: fs => match szOf P f.type with
    | some n => match placeB P fs with
      | some l => some ((f.offset, n) :: l)
      | none => none
    | none => none
def splice (cs : List AV) (off : Nat) (us : List AV) : List AV := cs.take off ++ us ++ cs.drop (off + us.length)
def fillB (place : Nat → Option (Nat × Nat)) (cells : List AV) : List (Nat × AV) → Option (List AV)
  | [] => some cells
  | (i, v) :: rest => match place i with
    | none => none
    | some (off, size) => bif v.cells.length.beq size then (bif Nat.ble (off + size) cells.length then fillB place (splice cells off v.cells) rest else none) else none
theorem foldl_set : ∀ (xs : List Value) (c : Array Value) (o k : Nat), (xs.zipIdx k).foldl (fun cs (p : Value × Nat) => cs.setIfInBounds (o + p.2) p.1) c = setFrom c (o + k) xs
  | [], _, _, _ => rfl
  | x :: xs, c, o, k => by
    simp only [List.zipIdx_cons, List.foldl_cons, setFrom]
    rw [foldl_set xs _ o (k + 1), show o + (k + 1) = o + k + 1 by omega]
theorem foldl_zipIdx (v : Value) (c : Array Value) (off : Nat) :
    v.cells.zipIdx.foldl (fun cs (x : Value × Nat) => cs.setIfInBounds (off + x.2) x.1) c = setFrom c off v.cells.toList := by
  rw [← Array.foldl_toList, Array.toList_zipIdx]
  simpa using foldl_set v.cells.toList c off 0
theorem VRs.splice {η : Env} {cs us : List AV} {c : Array Value} {xs : List Value} {off : Nat} (hc : VRs η cs c.toList) (hu : VRs η us xs) (h : off + us.length ≤ cs.length) :
    VRs η (Sim.splice cs off us) (setFrom c off xs).toList := by
  have hxl := hu.length
  have hcl := hc.length
  have hcs : c.size = cs.length := by simpa using hcl
  refine VRs.of_get (by simp [Sim.splice, size_setFrom, hcs]; omega) fun i v x hv hx => ?_
  have hx' : (setFrom c off xs)[i]? = some x := by simpa using hx
  rw [get_setFrom xs c off i (by omega)] at hx'
  unfold Sim.splice at hv
  by_cases h1 : i < off
  · rw [if_neg (by omega)] at hx'
    rw [List.getElem?_append_left (by simp; omega), List.getElem?_append_left (by simp; omega), List.getElem?_take, if_pos h1] at hv
    obtain ⟨y, hy, hr⟩ := hc.get i v hv
    have : c[i]? = some y := by simpa using hy
    rw [hx'] at this; cases this; exact hr
  · by_cases h2 : i < off + us.length
    · rw [if_pos (by omega)] at hx'
      rw [List.getElem?_append_left (by simp; omega), List.getElem?_append_right (by simp; omega)] at hv
      simp only [List.length_take, Nat.min_eq_left (show off ≤ cs.length by omega)] at hv
      obtain ⟨y, hy, hr⟩ := hu.get _ v hv
      rw [hx'] at hy; cases hy; exact hr
    · rw [if_neg (by omega)] at hx'
      rw [List.getElem?_append_right (by simp; omega)] at hv
      simp only [List.length_append, List.length_take, Nat.min_eq_left (show off ≤ cs.length by omega), List.getElem?_drop] at hv
      rw [show off + us.length + (i - (off + us.length)) = i by omega] at hv
      obtain ⟨y, hy, hr⟩ := hc.get i v hv
      have : c[i]? = some y := by simpa using hy
      rw [hx'] at this; cases this; exact hr
theorem fillB_spec {η : Env} {place : Nat → Option (Nat × Nat)} : ∀ {parts : List (Nat × AV)} {ps : List (Nat × Value)} {cs r : List AV} {c : Array Value},
    fillB place cs parts = some r → VRs η cs c.toList → (ps.map (·.1) = parts.map (·.1)) → VRs η (parts.map (·.2)) (ps.map (·.2)) →
    ∃ c', Instr.fill place c ps = some c' ∧ VRs η r c'.toList
  | [], ps, cs, r, c, h, hc, hp, hv => by
    simp only [List.map_nil, List.map_eq_nil_iff] at hp; subst hp
    simp [fillB] at h; subst h
    exact ⟨c, rfl, hc⟩
  | (i, v) :: rest, ps, cs, r, c, h, hc, hp, hv => by
    cases ps with
    | nil => simp at hp
    | cons p ps =>
      obtain ⟨i', x⟩ := p
      simp only [List.map_cons, List.cons.injEq] at hp
      obtain ⟨rfl, hp⟩ := hp
      simp only [List.map_cons, VRs] at hv
      obtain ⟨x', xs', he, hv1, hv2⟩ := hv
      simp only [List.cons.injEq] at he
      obtain ⟨rfl, rfl⟩ := he
      simp only [fillB] at h
      split at h
      · cases h
      · rename_i off size hpl
        cases hs : v.cells.length.beq size <;> simp only [hs, cond_false, cond_true] at h
        · cases h
        · cases hb : Nat.ble (off + size) cs.length <;> simp only [hb, cond_false, cond_true] at h
          · cases h
          · have hs' : v.cells.length = size := Nat.eq_of_beq_eq_true hs
            have hb' : off + size ≤ cs.length := Nat.le_of_ble_eq_true hb
            have hxc := hv1.cells
            have hxl := hxc.length
            have hcl := hc.length
            obtain ⟨c', h1, h2⟩ := fillB_spec h (hc.splice hxc (by omega)) hp hv2
            refine ⟨c', ?_, h2⟩
            have e1 : x.cells.size = size := by simp at hxl; omega
            have e2 : c.size = cs.length := by simpa using hcl
            simp only [Instr.fill, hpl]
            rw [if_neg (by simp [e1]; omega), foldl_zipIdx]
            exact h1

def zipParts : List (Nat × Operand) → List AV → List (Nat × AV)
  | (i, _) :: l, v :: vs => (i, v) :: zipParts l vs
  | _, _ => []
theorem zipParts_spec {η : Env} {ρ : Operand → Value} : ∀ {l : List (Nat × Operand)} {vs : List AV}, VRs η vs ((l.map (·.2)).map ρ) →
    ((l.map fun p => (p.1, ρ p.2)).map (·.1) = (zipParts l vs).map (·.1)) ∧ VRs η ((zipParts l vs).map (·.2)) ((l.map fun p => (p.1, ρ p.2)).map (·.2))
  | [], vs, h => by cases vs <;> simp_all [zipParts, VRs]
  | (i, o) :: l, [], h => by simp [VRs] at h
  | (i, o) :: l, v :: vs, h => by
    simp only [List.map_cons, VRs] at h
    obtain ⟨x, xs, he, h1, h2⟩ := h
    simp only [List.cons.injEq] at he
    obtain ⟨rfl, rfl⟩ := he
    obtain ⟨h3, h4⟩ := zipParts_spec (ρ := ρ) h2
    refine ⟨by simp only [List.map_cons, zipParts]; rw [h3], ?_⟩
    simp only [List.map_cons, zipParts, VRs]
    exact ⟨_, _, rfl, h1, h4⟩

theorem run_places {P : Program} {w : World} : ∀ {fs : List Field} {l : List (Nat × Nat)}, placeB P fs = some l →
    (List.mapM (m := Sem) (fun f => Prod.mk f.offset <$> sizeOf f.type) fs).run P w = .ok l w
  | [], l, h => by simp [placeB] at h; subst h; simp
  | f :: fs, l, h => by
    simp only [placeB] at h
    split at h
    · rename_i n hn
      split at h
      · rename_i l' hl; cases h
        simp [run_size hn, run_places hl]
      · cases h
    · cases h

def qBuild (P : Program) (t : TypeId) (parts : List (Nat × AV)) : Option AV := match zeroOf P t with
  | some z => match P.underlying t with
    | some (.struct fields) => match placeB P fields.toList with
      | some l => match fillB (fun i => nth l i) z.cells parts with
        | some cs => some (.agg cs)
        | none => none
      | none => none
    | some (.array _ elem) => match szOf P elem with
      | some n => match fillB (fun i => some (i * n, n)) z.cells parts with
        | some cs => some (.agg cs)
        | none => none
      | none => none
    | _ => none
  | none => none
theorem run_qBuild {P : Program} {w : World} {η : Env} {t : TypeId} {parts : List (Nat × AV)} {ps : List (Nat × Value)} {v : AV} (h : qBuild P t parts = some v)
    (hp : ps.map (·.1) = parts.map (·.1)) (hv : VRs η (parts.map (·.2)) (ps.map (·.2))) :
    ∃ x, (Instr.build t ps.toArray).run P w = .ok x w ∧ VR η v x := by
  unfold qBuild at h
  split at h
  · rename_i z hz
    obtain ⟨zx, hzr, hzv⟩ := run_zero (w := w) (η := η) hz
    split at h
    · rename_i fields hu
      split at h
      · rename_i l hl
        split at h
        · rename_i cs hcs
          cases h
          obtain ⟨c', h1, h2⟩ := fillB_spec (c := zx.cells) hcs hzv.cells hp hv
          have e : (fun i => nth l i) = fun x => l[x]? := by funext i; rw [nth_eq]
          rw [e] at h1
          have hpl : (Array.mapM (m := Sem) (fun f : Field => Prod.mk f.offset <$> sizeOf f.type) fields).run P w = .ok l.toArray w := by
            rw [Array.mapM_eq_mapM_toList]
            simp [run_places hl]
          refine ⟨.agg c', ?_, by simp only [VR]; exact ⟨_, rfl, h2⟩⟩
          simp [Instr.build, hzr, run_under hu, hpl, h1]
        · cases h
      · cases h
    · rename_i n elem hu
      split at h
      · rename_i n hn
        split at h
        · rename_i cs hcs
          cases h
          obtain ⟨c', h1, h2⟩ := fillB_spec (c := zx.cells) hcs hzv.cells hp hv
          refine ⟨.agg c', ?_, by simp only [VR]; exact ⟨_, rfl, h2⟩⟩
          simp [Instr.build, hzr, run_under hu, run_size hn, h1]
        · cases h
      · cases h
    · cases h
  · cases h

/-! ### Loads -/
def qLoad (P : Program) (H : T Blk) (t : TypeId) : AV → Option AV
  | .ptr b off => match aggOf P t with
    | some true => match szOf P t with
      | some n => match piece H b off n with
        | some cs => some (.agg cs)
        | none => none
      | none => none
    | some false => match piece H b off 1 with
      | some [v] => some v
      | _ => none
    | none => none
  | _ => none
section
variable {P : Program} {W0 : Base} {η : Env} {H : T Blk} {nx : Nat} {w : World}
theorem HR.loadVar (h : HR P W0 η H nx w) {t : TypeId} {b off : Nat} {v : AV} (hq : qLoad P H t (.ptr b off) = some v) {l : Loc} (hl : η b = some l) :
    ∃ x, (loadVar t ⟨l.B, l.sh + off, none⟩).run P w = .ok x w ∧ VR η v x := by
  simp only [qLoad] at hq
  split at hq
  · rename_i ha
    split at hq
    · rename_i n hn
      split at hq
      · rename_i cs hcs
        cases hq
        obtain ⟨xs, h1, _, h3⟩ := h.load hcs hl
        refine ⟨.agg xs.toArray, by simp [Go.loadVar, run_agg ha, run_size hn, h3], ?_⟩
        simp only [VR]; exact ⟨_, rfl, by simpa using h1⟩
      · cases hq
    · cases hq
  · rename_i ha
    split at hq
    · rename_i v' hcs
      cases hq
      obtain ⟨xs, h1, h2, h3, h4⟩ := h.piece hcs hl
      simp only [VRs] at h3
      obtain ⟨x, xs', rfl, hv, hr⟩ := h3
      have hc := h4 0 x (by simp)
      simp only [Nat.add_zero] at hc
      exact ⟨x, by simp [Go.loadVar, run_agg ha, hc], hv⟩
    · cases hq
  · cases hq
theorem HR.qLoad (h : HR P W0 η H nx w) {t : TypeId} {a v : AV} {y : Value} (hq : Sim.qLoad P H t a = some v) (hy : VR η a y) :
    ∃ x, (Instr.loadAt t y).run P w = .ok x w ∧ VR η v x := by
  cases a with
  | ptr b off =>
    simp only [VR] at hy
    obtain ⟨l, hl, rfl⟩ := hy
    obtain ⟨x, h1, h2⟩ := h.loadVar hq hl
    exact ⟨x, by simp [Instr.loadAt, Instr.sureAddr, h1], h2⟩
  | _ => simp [Sim.qLoad] at hq
end

end
end Go.Proofs.YtepkidlndboakaaGreatDoor.Sim
