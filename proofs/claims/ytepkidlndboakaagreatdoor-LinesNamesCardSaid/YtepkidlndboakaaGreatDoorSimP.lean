/-
  SIM, PART P. Drawn regions: the walk of one stage; the drawn order; the entry.
-/
import Derived.Test.YtepkidlndboakaaGreatDoorSimO
namespace Go.Proofs.YtepkidlndboakaaGreatDoor.Sim
open Go.RowKit (Below)
noncomputable section

/-! ### One stage -/
/-- What the operation i, which does not act, gives at a stage. -/
def Good1 (P : Program) (ng : Nat) (old : T AV) (os : List Oper) (anc : List Nat) (H : T Blk) (V V' : T AV) (i mi : Nat) (o : Oper) : Prop :=
  (wantedD V mi o = some false ∧ V'.get i = some (.tuple [])) ∨
  (wantedD V mi o = some true ∧ ((∃ e z b, o.op = .alloc e ∧ zeroOf P e = some z ∧ V'.get i = some (.ptr b 0) ∧ isZ H e z b = true) ∨
    (∀ e, o.op ≠ .alloc e) ∧ ∃ v, quiet P ng (envAt anc V i mi os 0 old) H o.op = some v ∧ V'.get i = some v))
section
variable {P : Program} {ng : Nat} {old : T AV} {os : List Oper} {anc : List Nat} {H : T Blk}
theorem Good1.congr {V V1 V' V1' : T AV} {i mi : Nat} {o : Oper} (h : Good1 P ng old os anc H V V' i mi o) (h1 : ∀ j, bit mi j = true → V.get j = V1.get j) (h2 : V1'.get i = V'.get i) : Good1 P ng old os anc H V1 V1' i mi o := by
  unfold Good1 at h ⊢
  rw [← wantedD_congr h1 o, h2, ← envAt_congr h1 os 0 old]
  exact h
theorem stage1_spec {V V' : T AV} {i mi : Nat} {o : Oper} (h : stage1 P ng old os anc H V i mi o = some V') (hi : i < 8388608) :
    (∀ j, j ≠ i → V'.get j = V.get j) ∧ (∀ v, V.get i = some v → V'.get i = some v) ∧ Good1 P ng old os anc H V V' i mi o := by
  unfold stage1 at h
  split at h
  · cases h
  · rename_i hw
    split at h
    · rename_i hv; cases h
      exact ⟨fun _ _ => rfl, fun _ h => h, .inl ⟨hw, hv⟩⟩
    · cases h
    · rename_i hv; cases h
      exact ⟨fun j hj => T.get_set_ne hj, fun v h => (by rw [hv] at h; cases h), .inl ⟨hw, T.get_set_same hi⟩⟩
  · rename_i hw
    split at h
    · rename_i e he
      split at h
      · rename_i z hz
        split at h
        · rename_i b hb
          cases hc : isZ H e z b <;> rw [hc] at h <;> simp only [cond_false, cond_true] at h
          · cases h
          · cases h
            exact ⟨fun _ _ => rfl, fun _ h => h, .inr ⟨hw, .inl ⟨e, z, b, he, hz, hb, hc⟩⟩⟩
        · cases h
      · cases h
    · rename_i hne
      split at h
      · rename_i v hv
        split at h
        · rename_i v' hv'
          cases hc : AV.beq v' v <;> rw [hc] at h <;> simp only [cond_false, cond_true] at h
          · cases h
          · cases h
            have := AV.beq_eq hc
            subst this
            exact ⟨fun _ _ => rfl, fun _ h => h, .inr ⟨hw, .inr ⟨hne, _, hv, hv'⟩⟩⟩
        · rename_i hn; cases h
          exact ⟨fun j hj => T.get_set_ne hj, fun v h => (by rw [hn] at h; cases h), .inr ⟨hw, .inr ⟨hne, _, hv, T.get_set_same hi⟩⟩⟩
      · cases h
theorem stageA_spec {rem fin : Nat} (hlt : ∀ (k m j : Nat), anc[k]? = some m → bit m j = true → j < k) : ∀ {l : List Oper} {ms : List Nat} {i : Nat} {V V' : T AV}, stageA P ng old os anc H rem fin l ms i V = some V' → i + l.length ≤ 8388608 →
    (∀ k, ms[k]? = anc[i + k]?) →
    (∀ j, j < i → V'.get j = V.get j) ∧ (∀ j v, V.get j = some v → V'.get j = some v) ∧
    ∀ k o mi, l[k]? = some o → anc[i + k]? = some mi → acting P o.op = false → bit fin (i + k) = false → (mi &&& rem).beq 0 = true → Good1 P ng old os anc H V' V' (i + k) mi o
  | [], ms, i, V, V', h, _, _ => by
    cases ms <;> (cases h; exact ⟨fun _ _ => rfl, fun _ _ h => h, fun k o mi hk => by simp at hk⟩)
  | o :: l, [], i, V, V', h, _, _ => by cases h
  | o :: l, mi :: ms, i, V, V', h, hb, hms => by
    have hms' : ∀ k, ms[k]? = anc[i + 1 + k]? := fun k => by have := hms (k + 1); rw [show i + (k + 1) = i + 1 + k by omega] at this; simpa using this
    have hmi : anc[i]? = some mi := by have := hms 0; simpa using this.symm
    have hb' : i + 1 + l.length ≤ 8388608 := by simp at hb; omega
    rw [stageA] at h
    cases hc : (acting P o.op || bit fin i || !((mi &&& rem).beq 0)) <;> rw [hc] at h <;> simp only [cond_false, cond_true] at h
    · simp only [Bool.or_eq_false_iff, Bool.not_eq_false'] at hc
      split at h
      · rename_i V1 hV1
        obtain ⟨k1, k2, k3⟩ := stage1_spec hV1 (by simp at hb; omega)
        obtain ⟨h1, h2, h3⟩ := stageA_spec hlt h hb' hms'
        have hbelow : ∀ j, j < i → V'.get j = V.get j := fun j hj => (h1 j (by omega)).trans (k1 j (by omega))
        refine ⟨hbelow, fun j v hv => ?_, fun k o' mi' hk hm ha hf hr => ?_⟩
        · by_cases e : j = i
          · subst e; exact h2 j v (k2 v hv)
          · exact h2 j v ((k1 j e).trans hv)
        · cases k with
          | zero =>
            simp at hk; subst hk
            simp only [Nat.add_zero] at hm hf ⊢
            rw [hmi] at hm; cases hm
            exact k3.congr (fun j hj => (hbelow j (hlt i _ j hmi hj)).symm) (h1 i (by omega))
          | succ k =>
            have := h3 k o' mi' (by simpa using hk) (by rw [show i + 1 + k = i + (k + 1) by omega]; exact hm) ha (by rw [show i + 1 + k = i + (k + 1) by omega]; exact hf) hr
            rwa [show i + 1 + k = i + (k + 1) by omega] at this
      · cases h
    · obtain ⟨h1, h2, h3⟩ := stageA_spec hlt h hb' hms'
      refine ⟨fun j hj => h1 j (by omega), h2, fun k o' mi' hk hm ha hf hr => ?_⟩
      cases k with
      | zero =>
        simp at hk; subst hk
        simp only [Nat.add_zero] at hm hf
        rw [hmi] at hm; cases hm
        rw [ha, hf, hr] at hc; cases hc
      | succ k =>
        have := h3 k o' mi' (by simpa using hk) (by rw [show i + 1 + k = i + (k + 1) by omega]; exact hm) ha (by rw [show i + 1 + k = i + (k + 1) by omega]; exact hf) hr
        rwa [show i + 1 + k = i + (k + 1) by omega] at this
end
theorem bit_maskOf : ∀ {l : List Nat} {j : Nat}, bit (maskOf l) j = true ↔ j ∈ l
  | [], j => by rw [maskOf, bit_zero]; simp
  | i :: l, j => by
    rw [maskOf, bit_or, bit_one, Bool.or_eq_true, decide_eq_true_eq, bit_maskOf, List.mem_cons]
    exact or_congr_left eq_comm
theorem and_maskOf {m : Nat} {l : List Nat} (h : ∀ a ∈ l, bit m a = false) : (m &&& maskOf l).beq 0 = true := by
  have : m &&& maskOf l = 0 := by
    apply Nat.eq_of_testBit_eq
    intro j
    rw [Nat.testBit_and, Nat.zero_testBit]
    cases hj : (maskOf l).testBit j with
    | false => simp
    | true =>
      have := h j (bit_maskOf.1 hj)
      unfold bit at this
      rw [this]; rfl
  rw [this]; rfl

/-! ### A block with a number of its own -/
section
variable {P : Program} {W : World} {R : Nat → Option Nat} {p : Nat} {η : Env} {H : T Blk} {nx : Nat} {w : World}
theorem HR.free (h : HR P ⟨W, R⟩ η H nx w) {R' : Nat → Option Nat} (hR : ∀ i q, R' i = some q → R i = some q) : HR P ⟨W, R'⟩ η H nx w :=
  ⟨h.below, fun i q hi => h.res i q (hR i q hi), h.fresh, h.blk, h.inj⟩
theorem HR.keep (h : HR P ⟨W, R⟩ η H nx w) {b : Blk} (p : Nat) : HR P ⟨W, fun i => if i = nx then some p else R i⟩ η (H.set b nx) (nx + 1) w := by
  have hfr := h.fresh nx (Nat.le_refl _)
  refine ⟨h.below, fun i q hi => ?_, fun i hi => h.fresh i (by omega), fun i c l hc hl => ?_, fun i j c e l m hij hc he hcd hed hcr hl hm => ?_⟩
  · by_cases e : i = nx
    · subst e; exact ⟨hfr, Nat.lt_succ_self _⟩
    · have hi' : (if i = nx then some p else R i) = some q := hi
      rw [if_neg e] at hi'
      obtain ⟨k1, k2⟩ := h.res i q hi'
      exact ⟨k1, Nat.lt_succ_of_lt k2⟩
  · rcases T.get_set hc with ⟨rfl, rfl⟩ | ⟨hne, hc⟩
    · rw [hfr] at hl; cases hl
    · exact h.blk i c l hc hl
  · rcases T.get_set hc with ⟨rfl, rfl⟩ | ⟨_, hc⟩
    · rw [hfr] at hl; cases hl
    · rcases T.get_set he with ⟨rfl, rfl⟩ | ⟨_, he⟩
      · rw [hfr] at hm; cases hm
      · exact h.inj i j c e l m hij hc he hcd hed hcr hl hm
theorem HR.allocAt (h : HR P ⟨W, R⟩ η H nx w) {b e : Nat} {z : AV} (hR : R b = some p) (hz : zeroOf P e = some z) (hb : H.get b = some (.cells (z.cells.map some) e false true)) :
    ∃ η' w' x, η.le η' ∧ (Instr.alloc e true (.tuple #[])).run P w = .ok x w' ∧ VR η' (.ptr b 0) x ∧ HR P ⟨W, fun i => if i = b then none else R i⟩ η' H nx w' := by
  obtain ⟨zx, hzr, hzv⟩ := run_zero (w := w) (η := η) hz
  obtain ⟨hn, hlt⟩ := h.res b p hR
  have hle := Env.le_bind hn ⟨w.heap.size, 0, 0⟩
  have hlen := hzv.cells.length
  have hsz : zx.cells.size = z.cells.length := by simpa using hlen
  have h' : HR P ⟨W, fun i => if i = b then none else R i⟩ η H nx w := h.free fun i q hi => by
    have hi' : (if i = b then none else R i) = some q := hi
    split at hi'
    · cases hi'
    · exact hi'
  refine ⟨η.bind b ⟨w.heap.size, 0, 0⟩, w.alloc (.cells zx.cells e), .pointer (some ⟨w.heap.size, 0, none⟩), hle, by simp [Instr.alloc, hzr, newVar, Go.newRow], by simp only [VR]; exact ⟨_, Env.bind_same _ _ _, rfl⟩, ?_⟩
  refine h'.alloc (blk := .cells (z.cells.map some) e false true) hn (by simp) (Nat.le_refl _) hlt (fun j c hc => ?_) ?_
  · by_cases ej : j = b
    · subst ej; rw [hb] at hc; cases hc; exact .inl ⟨rfl, rfl⟩
    · exact .inr ⟨ej, hc⟩
  · refine ⟨zx.cells, (0, 0), alloc_get _ _, by simp [hsz], fun i v hi => ?_, fun _ => ⟨h.base_le, thaw_zero _⟩, fun _ => ⟨rfl, by simp [hsz]⟩⟩
    rw [List.getElem?_map] at hi
    cases hu : z.cells[i]? with
    | none => rw [hu] at hi; simp at hi
    | some u =>
      rw [hu] at hi; simp at hi; subst hi
      obtain ⟨x, hx, hv⟩ := hzv.cells.get i u hu
      exact ⟨x, by simpa using hx, VR.mono hle _ _ hv⟩
end

/-! ### The drawn order -/
section
variable {ops : Array Oper}
theorem filter_lt {l : List Nat} {f g : Nat → Bool} {i : Nat} (hi : i ∈ l) (hfi : f i = true) (hgi : g i = false) (h : ∀ j, g j = true → f j = true) : (l.filter g).length < (l.filter f).length := by
  induction l with
  | nil => simp at hi
  | cons a l ih =>
    have hle : ∀ l : List Nat, (l.filter g).length ≤ (l.filter f).length := by
      intro l
      induction l with
      | nil => simp
      | cons b l ihl =>
        rw [List.filter_cons, List.filter_cons]
        cases hg : g b with
        | true => rw [h b hg]; simpa using ihl
        | false => cases f b <;> simp <;> omega
    rw [List.filter_cons, List.filter_cons]
    rcases List.mem_cons.1 hi with rfl | hi
    · rw [hfi, hgi]
      have := hle l
      simp; omega
    · have := ih hi
      cases hg : g a with
      | true => rw [h a hg]; simpa using this
      | false => cases f a <;> simp <;> omega
theorem linearise_lin (hlt : ∀ (i : Nat) (o : Oper), ops[i]? = some o → ∀ e ∈ o.after, Region.binds .any e = true → e.on < i) : ∀ (fuel t : Nat) (listed : Array Bool) (D : Nat → Prop), listed.size = ops.size →
    (∀ i, D i ↔ listed[i]? = some true) → ((List.range ops.size).filter fun i => !(listed[i]?).getD true).length ≤ fuel → Lin ops.toList D (Region.linearise.go .any ops fuel t listed []) := by
  have all : ∀ (listed : Array Bool) (D : Nat → Prop), listed.size = ops.size → (∀ i, D i ↔ listed[i]? = some true) → (∀ i, i < ops.size → (listed[i]?).getD true = true) → Lin ops.toList D [] := by
    intro listed D hs hD h
    refine .nil fun i hi => ?_
    rw [Array.length_toList] at hi
    have h1 := h i hi
    rw [hD]
    rw [← hs] at hi
    rw [Array.getElem?_eq_getElem hi] at h1 ⊢
    simpa using h1
  intro fuel
  induction fuel with
  | zero =>
    intro t listed D hs hD hf
    simp only [Region.linearise.go, List.reverse_nil]
    refine all listed D hs hD fun i hi => ?_
    have hnil := List.length_eq_zero_iff.1 (Nat.le_zero.1 hf)
    have := List.filter_eq_nil_iff.1 hnil i (List.mem_range.2 hi)
    simpa using this
  | succ fuel ih =>
    intro t listed D hs hD hf
    simp only [Region.linearise.go]
    split
    · rename_i i hi
      rw [linearise_go_acc, List.reverse_singleton, List.singleton_append]
      have hm := List.mem_of_getElem? hi
      rw [List.mem_filter, List.mem_range, Bool.and_eq_true] at hm
      obtain ⟨h1, h2, h3⟩ := hm
      have ho : ops[i]? = some ops[i] := Array.getElem?_eq_getElem h1
      have hl : listed[i]? = some false := by
        rw [← hs] at h1
        simp only [Array.getD_eq_getD_getElem?, Array.getElem?_eq_getElem h1, Option.getD_some] at h2
        rw [Array.getElem?_eq_getElem h1]
        simpa using h2
      refine .cons (o := ops[i]) (by rw [Array.getElem?_toList]; exact ho) (fun hd => by rw [hD, hl] at hd; cases hd) (fun e he hb => ?_) ?_
      · rw [ho, Option.map_some, Option.getD_some, Array.all_eq_true'] at h3
        have := h3 e he
        rw [hb] at this
        simp only [Bool.not_true, Bool.false_or, Array.getD_eq_getD_getElem?] at this
        rw [hD]
        cases hx : listed[e.on]? with
        | none => rw [hx] at this; cases this
        | some b => rw [hx, Option.getD_some] at this; rw [this]
      · refine ih _ _ _ (by simpa using hs) (fun j => ?_) ?_
        · have hil : i < listed.size := by rw [hs]; exact h1
          by_cases e : j = i
          · subst e; simp [hil]
          · rw [Array.getElem?_setIfInBounds_ne (Ne.symm e)]
            rw [← hD]
            exact ⟨fun h => h.resolve_left e, .inr⟩
        · have hil : i < listed.size := by rw [hs]; exact h1
          refine Nat.le_of_lt_succ (Nat.lt_of_lt_of_le (filter_lt (i := i) (List.mem_range.2 h1) (by rw [hl]; rfl) (by simp [hil]) fun j hj => ?_) hf)
          by_cases e : j = i
          · subst e; simp [hil] at hj
          · rw [Array.getElem?_setIfInBounds_ne (Ne.symm e)] at hj; exact hj
    · rename_i hn
      rw [List.reverse_nil]
      refine all listed D hs hD fun i hi => ?_
      have hnil : ((List.range ops.size).filter fun i => !listed.getD i true && ((ops[i]?).map (·.after.all fun e => !Region.binds .any e || listed.getD e.on false)).getD false) = [] := by
        generalize ((List.range ops.size).filter fun i => !listed.getD i true && ((ops[i]?).map (·.after.all fun e => !Region.binds .any e || listed.getD e.on false)).getD false) = rs at hn
        cases rs with
        | nil => rfl
        | cons x xs =>
          have hlt : t % (x :: xs).length < (x :: xs).length := Nat.mod_lt _ (by simp)
          rw [List.getElem?_eq_getElem hlt] at hn; cases hn
      induction i using Nat.strongRecOn with
      | _ i ih2 =>
        cases hx : (listed[i]?).getD true with
        | true => rfl
        | false =>
          exfalso
          have h1 := List.filter_eq_nil_iff.1 hnil i (List.mem_range.2 hi)
          apply h1
          rw [Bool.and_eq_true]
          refine ⟨by rw [Array.getD_eq_getD_getElem?, hx]; rfl, ?_⟩
          rw [Array.getElem?_eq_getElem hi, Option.map_some, Option.getD_some, Array.all_eq_true']
          intro e he
          cases hb : Region.binds .any e with
          | false => rfl
          | true =>
            have hei := hlt i ops[i] (Array.getElem?_eq_getElem hi) e he hb
            have := ih2 e.on hei (by omega)
            have hel : e.on < listed.size := by rw [hs]; omega
            rw [Array.getElem?_eq_getElem hel] at this
            simp only [Array.getD_eq_getD_getElem?, Array.getElem?_eq_getElem hel]
            simpa using this
end
end
end Go.Proofs.YtepkidlndboakaaGreatDoor.Sim
