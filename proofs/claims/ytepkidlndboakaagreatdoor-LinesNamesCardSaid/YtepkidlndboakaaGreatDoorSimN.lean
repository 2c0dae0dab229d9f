/-
  SIM, PART N. Drawn regions: who must come before whom; one operation done.
-/
import Derived.Test.YtepkidlndboakaaGreatDoorSimM
namespace Go.Proofs.YtepkidlndboakaaGreatDoor.Sim
open Go.RowKit (Below)
noncomputable section

theorem bit_or (a b j : Nat) : bit (a ||| b) j = (bit a j || bit b j) := Nat.testBit_or a b j
theorem bit_one (k j : Nat) : bit (1 <<< k) j = decide (k = j) := by
  rw [Nat.one_shiftLeft]; exact Nat.testBit_two_pow
theorem bit_zero (j : Nat) : bit 0 j = false := Nat.zero_testBit j

theorem ancOf_spec {acc : List Nat} : ∀ {l : List Edge} {m : Nat}, ancOf acc l = some m →
    (∀ e ∈ l, Region.binds .any e = true → bit m e.on = true ∧ e.on < acc.length) ∧
    (∀ j, bit m j = true → ∃ e ∈ l, Region.binds .any e = true ∧ (j = e.on ∨ ∃ a, acc[e.on]? = some a ∧ bit a j = true))
  | [], m, h => by
    cases h
    exact ⟨fun e he => absurd he (by simp), fun j hj => by rw [bit_zero] at hj; cases hj⟩
  | e :: l, m, h => by
    rw [ancOf] at h
    split at h
    · rename_i m' hm'
      obtain ⟨h1, h2⟩ := ancOf_spec hm'
      cases hb : Region.binds .any e <;> rw [hb] at h <;> simp only [cond_false, cond_true] at h
      · cases h
        refine ⟨fun e' he' hb' => ?_, fun j hj => let ⟨e', k1, k2⟩ := h2 j hj; ⟨e', List.mem_cons_of_mem _ k1, k2⟩⟩
        rcases List.mem_cons.1 he' with rfl | he'
        · rw [hb] at hb'; cases hb'
        · exact h1 e' he' hb'
      · split at h
        · rename_i a ha
          cases h
          rw [nth_eq] at ha
          refine ⟨fun e' he' hb' => ?_, fun j hj => ?_⟩
          · rcases List.mem_cons.1 he' with rfl | he'
            · refine ⟨?_, (List.getElem?_eq_some_iff.1 ha).1⟩
              rw [bit_or, bit_or, bit_one]; simp
            · obtain ⟨k1, k2⟩ := h1 e' he' hb'
              exact ⟨by rw [bit_or, bit_or, k1]; simp, k2⟩
          · rw [bit_or, bit_or, bit_one] at hj
            simp only [Bool.or_eq_true, decide_eq_true_eq] at hj
            rcases hj with (hj | hj) | hj
            · obtain ⟨e', k1, k2⟩ := h2 j hj
              exact ⟨e', List.mem_cons_of_mem _ k1, k2⟩
            · exact ⟨e, List.mem_cons_self, hb, .inl hj.symm⟩
            · exact ⟨e, List.mem_cons_self, hb, .inr ⟨a, ha, hj⟩⟩
        · cases h
    · cases h
theorem ancs_spec : ∀ {os : List Oper} {acc anc : List Nat}, ancs os acc = some anc →
    (∃ tl, anc = acc ++ tl) ∧ anc.length = acc.length + os.length ∧ ∀ k o, os[k]? = some o → ∃ m, anc[acc.length + k]? = some m ∧ ancOf (anc.take (acc.length + k)) o.after.toList = some m
  | [], acc, anc, h => by
    cases h
    exact ⟨⟨[], by simp⟩, by simp, fun k o ho => by simp at ho⟩
  | o :: os, acc, anc, h => by
    rw [ancs] at h
    split at h
    · rename_i m hm
      obtain ⟨⟨tl, h1⟩, h2, h3⟩ := ancs_spec h
      refine ⟨⟨m :: tl, by rw [h1]; simp⟩, by rw [h2]; simp; omega, fun k o' ho' => ?_⟩
      cases k with
      | zero =>
        simp at ho'; subst ho'
        refine ⟨m, by rw [h1]; simp, ?_⟩
        rw [h1]; simpa using hm
      | succ k =>
        obtain ⟨m', k1, k2⟩ := h3 k o' (by simpa using ho')
        simp only [List.length_append, List.length_singleton] at k1 k2
        rw [show acc.length + 1 + k = acc.length + (k + 1) by omega] at k1 k2
        exact ⟨m', k1, k2⟩
    · cases h
section
variable {os : List Oper} {anc : List Nat}
theorem anc_at (h : ancs os [] = some anc) {i : Nat} {o : Oper} (ho : os[i]? = some o) : ∃ m, anc[i]? = some m ∧ ancOf (anc.take i) o.after.toList = some m := by
  obtain ⟨_, _, h3⟩ := ancs_spec h
  simpa using h3 i o ho
theorem anc_pred (h : ancs os [] = some anc) {i m : Nat} {o : Oper} (ho : os[i]? = some o) (hm : anc[i]? = some m) {e : Edge} (he : e ∈ o.after) (hb : Region.binds .any e = true) : bit m e.on = true ∧ e.on < i := by
  obtain ⟨m', k1, k2⟩ := anc_at h ho
  rw [hm] at k1; cases k1
  obtain ⟨k3, k4⟩ := (ancOf_spec k2).1 e (by simpa using he) hb
  exact ⟨k3, Nat.lt_of_lt_of_le k4 (by simp; omega)⟩
theorem anc_bit (h : ancs os [] = some anc) {i m : Nat} {o : Oper} (ho : os[i]? = some o) (hm : anc[i]? = some m) {j : Nat} (hj : bit m j = true) :
    ∃ e ∈ o.after, Region.binds .any e = true ∧ e.on < i ∧ (j = e.on ∨ ∃ a, anc[e.on]? = some a ∧ bit a j = true) := by
  obtain ⟨m', k1, k2⟩ := anc_at h ho
  rw [hm] at k1; cases k1
  obtain ⟨e, k3, k4, k5⟩ := (ancOf_spec k2).2 j hj
  have hlt := ((ancOf_spec k2).1 e k3 k4).2
  have hlt' : e.on < i := Nat.lt_of_lt_of_le hlt (by simp; omega)
  refine ⟨e, by simpa using k3, k4, hlt', ?_⟩
  rcases k5 with k5 | ⟨a, k5, k6⟩
  · exact .inl k5
  · rw [List.getElem?_take_of_lt hlt'] at k5
    exact .inr ⟨a, k5, k6⟩
theorem anc_len (h : ancs os [] = some anc) : anc.length = os.length := by
  obtain ⟨_, h2, _⟩ := ancs_spec h
  simpa using h2
theorem anc_lt (h : ancs os [] = some anc) : ∀ (i : Nat) {m j : Nat}, anc[i]? = some m → bit m j = true → j < i := by
  intro i
  induction i using Nat.strongRecOn with
  | _ i ih =>
    intro m j hm hj
    obtain ⟨o, ho⟩ : ∃ o, os[i]? = some o := by
      have := (List.getElem?_eq_some_iff.1 hm).1
      rw [anc_len h] at this
      exact ⟨os[i], List.getElem?_eq_getElem this⟩
    obtain ⟨e, _, _, k3, k4⟩ := anc_bit h ho hm hj
    rcases k4 with rfl | ⟨a, k4, k5⟩
    · exact k3
    · have := ih e.on k3 k4 k5
      omega
/-- Whoever is done has all done that must come before it. -/
theorem anc_done (h : ancs os [] = some anc) {D : Nat → Prop} (hD : ∀ i, D i → ∃ o, os[i]? = some o ∧ ∀ e ∈ o.after, Region.binds .any e = true → D e.on) : ∀ (i : Nat) {m j : Nat}, D i → anc[i]? = some m → bit m j = true → D j := by
  intro i
  induction i using Nat.strongRecOn with
  | _ i ih =>
    intro m j hi hm hj
    obtain ⟨o, ho, hp⟩ := hD i hi
    obtain ⟨e, k1, k2, k3, k4⟩ := anc_bit h ho hm hj
    rcases k4 with rfl | ⟨a, k4, k5⟩
    · exact hp e k1 k2
    · exact ih e.on k3 (hp e k1 k2) k4 k5
/-- Whoever is ready has all done that must come before it. -/
theorem anc_ready (h : ancs os [] = some anc) {D : Nat → Prop} (hD : ∀ i, D i → ∃ o, os[i]? = some o ∧ ∀ e ∈ o.after, Region.binds .any e = true → D e.on) {i m j : Nat} {o : Oper} (ho : os[i]? = some o)
    (hp : ∀ e ∈ o.after, Region.binds .any e = true → D e.on) (hm : anc[i]? = some m) (hj : bit m j = true) : D j := by
  obtain ⟨e, k1, k2, k3, k4⟩ := anc_bit h ho hm hj
  rcases k4 with rfl | ⟨a, k4, k5⟩
  · exact hp e k1 k2
  · exact anc_done h hD e.on (hp e k1 k2) k4 k5
theorem behind_spec {a : Nat} : ∀ {l : List Nat}, behind anc a l = true → ∀ b ∈ l, ∃ m, anc[b]? = some m ∧ bit m a = true
  | [], _, b, hb => by simp at hb
  | c :: l, h, b, hb => by
    rw [behind, Bool.and_eq_true] at h
    rcases List.mem_cons.1 hb with rfl | hb
    · rw [nth_eq] at h
      cases hc : anc[b]? with
      | none => rw [hc] at h; simp only [Option.getD_none, bit_zero] at h; cases h.1
      | some m => rw [hc] at h; exact ⟨m, rfl, h.1⟩
    · exact behind_spec h.2 b hb
/-- No two operations give the same temporary. -/
theorem dstsOk_spec {N : Nat} : ∀ {os : List Oper} {acc : List Nat}, dstsOk N os acc = true →
    (∀ (i : Nat) (o : Oper) (t : Nat), os[i]? = some o → o.dst = some t → t < N ∧ t ∉ acc) ∧
    (∀ (i j : Nat) (o o' : Oper) (t : Nat), os[i]? = some o → os[j]? = some o' → o.dst = some t → o'.dst = some t → i = j)
  | [], acc, _ => ⟨fun i o t h => by simp at h, fun i j o o' t h => by simp at h⟩
  | o :: os, acc, h => by
    rw [dstsOk] at h
    split at h
    · rename_i hd
      obtain ⟨h1, h2⟩ := dstsOk_spec h
      refine ⟨fun i o' t ho ht => ?_, fun i j o1 o2 t hi hj h3 h4 => ?_⟩
      · cases i with
        | zero => simp at ho; subst ho; rw [hd] at ht; cases ht
        | succ i => exact h1 i o' t (by simpa using ho) ht
      · cases i with
        | zero => simp at hi; subst hi; rw [hd] at h3; cases h3
        | succ i =>
          cases j with
          | zero => simp at hj; subst hj; rw [hd] at h4; cases h4
          | succ j => rw [h2 i j o1 o2 t (by simpa using hi) (by simpa using hj) h3 h4]
    · rename_i d hd
      simp only [Bool.and_eq_true, Bool.not_eq_true'] at h
      obtain ⟨⟨k1, k2⟩, k3⟩ := h
      obtain ⟨h1, h2⟩ := dstsOk_spec k3
      have hd' : d < N ∧ d ∉ acc := ⟨Nat.le_of_ble_eq_true k1, by simpa using k2⟩
      refine ⟨fun i o' t ho ht => ?_, fun i j o1 o2 t hi hj h3 h4 => ?_⟩
      · cases i with
        | zero => simp at ho; subst ho; rw [hd] at ht; cases ht; exact hd'
        | succ i =>
          obtain ⟨k4, k5⟩ := h1 i o' t (by simpa using ho) ht
          exact ⟨k4, fun h => k5 (List.mem_cons_of_mem _ h)⟩
      · cases i with
        | zero =>
          simp at hi; subst hi; rw [hd] at h3; cases h3
          cases j with
          | zero => rfl
          | succ j => exact absurd List.mem_cons_self (h1 j o2 _ (by simpa using hj) h4).2
        | succ i =>
          cases j with
          | zero => simp at hj; subst hj; rw [hd] at h4; cases h4; exact absurd List.mem_cons_self (h1 i o1 _ (by simpa using hi) h3).2
          | succ j => rw [h2 i j o1 o2 t (by simpa using hi) (by simpa using hj) h3 h4]
end

section
variable {P : Program} {R : Nat → Option Nat} {p : Nat} {η : Env} {ops : Array Oper} {d : Draw} {tm : T AV} {tmps : Array Value} {D : Nat → Prop} {ds : List Deferred}

theorem put_get {dst : Option Tmp} {x : Value} {t : Nat} (h : dst ≠ some t) : ((⟨tmps, ds⟩ : Act).put dst x).tmps[t]? = tmps[t]? := by
  cases dst with
  | none => rfl
  | some u =>
    have hne : u ≠ t := fun e => h (by rw [e])
    simp [Act.put, Array.getElem?_setIfInBounds_ne hne]
theorem put_size {dst : Option Tmp} {x : Value} : ((⟨tmps, ds⟩ : Act).put dst x).tmps.size = tmps.size := by
  cases dst <;> simp [Act.put]
/-- One more operation is done. -/
theorem DrawR.put (h : DrawR P R p η ops d tm tmps D) {i : Nat} {o : Oper} (ho : d.ops[i]? = some o) (hp : ∀ e ∈ o.after, Region.binds .any e = true → D e.on) (hi : ¬ D i)
    {x : Value} {u : AV} (hx : VR η u x) {V' : T AV} {todo' : List Nat} {fin' : Nat} (hVi : V'.get i = some u) (hV : ∀ j, j ≠ i → V'.get j = d.V.get j)
    (hacts : ∀ j, j ∈ todo' ↔ ∃ o', d.ops[j]? = some o' ∧ acting P o'.op = true ∧ ¬ (j = i ∨ D j)) (hfin : ∀ j, bit fin' j = true → j = i ∨ D j) :
    DrawR P R p η ops ⟨d.ops, d.anc, V', todo', fin'⟩ tm ((⟨tmps, ds⟩ : Act).put o.dst x).tmps (fun j => j = i ∨ D j) where
  ops := h.ops
  anc := h.anc
  len := h.len
  grd := h.grd
  dst := by rw [put_size]; exact h.dst
  closed j hj := by
    rcases hj with rfl | hj
    · exact ⟨o, ho, fun e he hb => .inr (hp e he hb)⟩
    · obtain ⟨o', k1, k2⟩ := h.closed j hj
      exact ⟨o', k1, fun e he hb => .inr (k2 e he hb)⟩
  acts := hacts
  fin := hfin
  dom j hj := by
    rcases hj with rfl | hj
    · exact ⟨u, hVi⟩
    · obtain ⟨v, hv⟩ := h.dom j hj
      by_cases e : j = i
      · subst e; exact ⟨u, hVi⟩
      · exact ⟨v, (hV j e).trans hv⟩
  val j v hv hj := by
    by_cases e : j = i
    · subst e
      rw [hVi] at hv; cases hv
      refine ⟨o, ho, fun t ht => ⟨x, ?_, hx⟩⟩
      have hlt := ((dstsOk_spec h.dst).1 j o t ho ht).1
      simp [Act.put, ht, hlt]
    · rcases hj with hj | hj
      · exact absurd hj e
      rw [hV j e] at hv
      obtain ⟨o', k1, k2⟩ := h.val j v hv hj
      refine ⟨o', k1, fun t ht => ?_⟩
      rw [put_get fun e' => e ((dstsOk_spec h.dst).2 j i o' o t k1 ho ht e')]
      exact k2 t ht
  old t v hv hk := by
    have hne : o.dst ≠ some t := fun e => hk i o ho e (.inl rfl)
    rw [put_get hne]
    exact h.old t v hv fun j o' h1 h2 h3 => hk j o' h1 h2 (.inr h3)
  res j o' e h1 h2 h3 := by
    obtain ⟨k1, b, k2, k3⟩ := h.res j o' e h1 h2 fun h => h3 (.inr h)
    exact ⟨k1, b, (hV j fun e => h3 (.inl e)).trans k2, k3⟩
  resInj j k o1 o2 e1 e2 b hjk h1 h2 h3 h4 h5 h6 h7 := by
    show V'.get k ≠ _
    rw [hV k fun e => h6 (.inl e)]
    refine h.resInj j k o1 o2 e1 e2 b hjk h1 h2 (fun h => h3 (.inr h)) h4 h5 (fun h => h6 (.inr h)) ?_
    rw [← hV j fun e => h3 (.inl e)]; exact h7

/-- An acting operation, the next of them, is done. -/
theorem DrawR.next (h : DrawR P R p η ops d tm tmps D) {a ma : Nat} {rest L : List Nat} (hL : Lin d.ops D (a :: L)) (ht : d.todo = a :: rest) (hb : behind d.anc a rest = true) (hm : nth d.anc a = some ma)
    {x : Value} {u : AV} (hx : VR η u x) : ∃ o, d.ops[a]? = some o ∧ DrawR P R p η ops (d.next a ma u) tm ((⟨tmps, ds⟩ : Act).put o.dst x).tmps (fun j => j = a ∨ D j) ∧ Lin (d.next a ma u).ops (fun j => j = a ∨ D j) L := by
  cases hL with
  | cons ho hi hp hL =>
    rename_i o
    rw [nth_eq] at hm
    have halt : a < 8388608 := Nat.lt_of_lt_of_le (List.getElem?_eq_some_iff.1 ho).1 (Nat.le_trans h.len (by decide))
    have hself : a ∉ rest := fun hr => by
      obtain ⟨m, k1, k2⟩ := behind_spec hb a hr
      exact absurd (anc_lt h.anc a k1 k2) (Nat.lt_irrefl _)
    refine ⟨o, ho, ?_, hL⟩
    refine h.put (V' := d.V.set u a) ho hp hi hx (T.get_set_same halt) (fun j hj => T.get_set_ne hj) (fun j => ?_) fun j hj => ?_
    · show j ∈ d.todo.tail ↔ _
      rw [ht, List.tail_cons]
      constructor
      · intro hj
        obtain ⟨o', k1, k2, k3⟩ := (h.acts j).1 (by rw [ht]; exact List.mem_cons_of_mem _ hj)
        exact ⟨o', k1, k2, fun e => e.elim (fun e => hself (e ▸ hj)) k3⟩
      · rintro ⟨o', k1, k2, k3⟩
        have := (h.acts j).2 ⟨o', k1, k2, fun h => k3 (.inr h)⟩
        rw [ht] at this
        rcases List.mem_cons.1 this with e | hj
        · exact absurd (.inl e) k3
        · exact hj
    · have hj' : bit ((d.fin ||| (1 <<< a)) ||| ma) j = true := hj
      rw [bit_or, bit_or, bit_one] at hj'
      simp only [Bool.or_eq_true, decide_eq_true_eq] at hj'
      rcases hj' with (k | k) | k
      · exact .inr (h.fin j k)
      · exact .inl k.symm
      · exact .inr (anc_ready h.anc h.closed ho hp hm k)
end
end
end Go.Proofs.YtepkidlndboakaaGreatDoor.Sim
