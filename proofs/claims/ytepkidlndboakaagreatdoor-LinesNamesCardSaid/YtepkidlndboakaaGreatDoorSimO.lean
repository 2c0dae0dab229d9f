/-
  SIM, PART O. Drawn regions: one stage, in whatever order.
-/
import Derived.Test.YtepkidlndboakaaGreatDoorSimN
import Derived.Orders
namespace Go.Proofs.YtepkidlndboakaaGreatDoor.Sim
open Go.RowKit (Below)
noncomputable section

mutual
theorem AV.beq_eq : ∀ {a b : AV}, AV.beq a b = true → a = b
  | .bool a, b, h => by cases b <;> simp [AV.beq] at h; subst h; rfl
  | .int k a, b, h => by cases b <;> simp [AV.beq] at h; obtain ⟨rfl, rfl⟩ := h; rfl
  | .str a, b, h => by cases b <;> simp [AV.beq] at h; subst h; rfl
  | .ptr a o, b, h => by cases b <;> simp [AV.beq] at h; obtain ⟨rfl, rfl⟩ := h; rfl
  | .nilptr, b, h => by cases b <;> simp [AV.beq] at h; rfl
  | .slice a o l c s, b, h => by cases b <;> simp [AV.beq] at h; obtain ⟨⟨⟨⟨rfl, rfl⟩, rfl⟩, rfl⟩, rfl⟩ := h; rfl
  | .nilslice, b, h => by cases b <;> simp [AV.beq] at h; rfl
  | .map a, b, h => by cases b <;> simp [AV.beq] at h; subst h; rfl
  | .nilmap, b, h => by cases b <;> simp [AV.beq] at h; rfl
  | .func f a c, b, h => by
    cases b <;> simp [AV.beq] at h
    obtain ⟨⟨rfl, h1⟩, h2⟩ := h
    rw [beqs_eq h1, beqs_eq h2]
  | .yield a, b, h => by cases b <;> simp [AV.beq] at h; subst h; rfl
  | .nilFunc, b, h => by cases b <;> simp [AV.beq] at h; rfl
  | .iface t v, b, h => by
    cases b <;> simp [AV.beq] at h
    obtain ⟨rfl, h1⟩ := h
    rw [AV.beq_eq h1]
  | .nilIface, b, h => by cases b <;> simp [AV.beq] at h; rfl
  | .agg a, b, h => by cases b <;> simp [AV.beq] at h; rw [beqs_eq h]
  | .tuple a, b, h => by cases b <;> simp [AV.beq] at h; rw [beqs_eq h]
theorem beqs_eq : ∀ {a b : List AV}, beqs a b = true → a = b
  | [], b, h => by cases b <;> simp [beqs] at h; rfl
  | x :: l, b, h => by
    cases b <;> simp [beqs] at h
    rw [AV.beq_eq h.1, beqs_eq h.2]
end
theorem beqO_eq : ∀ {a : List (Option AV)} {b : List AV}, beqO a b = true → a = b.map some
  | [], b, h => by cases b <;> simp [beqO] at h; rfl
  | none :: l, b, h => by cases b <;> simp [beqO] at h
  | some x :: l, b, h => by
    cases b <;> simp [beqO] at h
    rw [AV.beq_eq h.1, beqO_eq h.2]; rfl
theorem isZ_spec {H : T Blk} {e b : Nat} {z : AV} (h : isZ H e z b = true) : H.get b = some (.cells (z.cells.map some) e false true) := by
  unfold isZ at h
  split at h
  · rename_i vs e' hb
    simp only [Bool.and_eq_true] at h
    rw [hb, beqO_eq h.2, Nat.eq_of_beq_eq_true h.1]
  · cases h
theorem T.get_del {α : Type} {y : α} : ∀ {t : T α} {i j : Nat}, (t.del i).get j = some y → j ≠ i ∧ t.get j = some y
  | .e, i, j, h => by rw [T.del, T.get_e] at h; cases h
  | .n l v r, i, j, h => by
    rw [T.del] at h
    cases h0 : i.beq 0 <;> rw [h0] at h <;> simp only [cond_false, cond_true] at h
    · have hi : i ≠ 0 := fun e => by subst e; simp at h0
      cases h1 : (i % 2).beq 1 <;> rw [h1] at h <;> simp only [cond_false, cond_true, T.get_n] at h <;> cases hj0 : j.beq 0 <;> rw [hj0] at h <;> simp only [cond_false, cond_true] at h
      · cases hj1 : (j % 2).beq 1 <;> rw [hj1] at h <;> simp only [cond_false, cond_true] at h
        · obtain ⟨k1, k2⟩ := T.get_del h
          refine ⟨fun e => k1 (by rw [e]), ?_⟩
          rw [T.get_n, hj0, hj1]; exact k2
        · refine ⟨fun e => ?_, ?_⟩
          · subst e; rw [h1] at hj1; cases hj1
          · rw [T.get_n, hj0, hj1]; exact h
      · refine ⟨fun e => hi (e ▸ Nat.eq_of_beq_eq_true hj0), ?_⟩
        rw [T.get_n, hj0]; exact h
      · cases hj1 : (j % 2).beq 1 <;> rw [hj1] at h <;> simp only [cond_false, cond_true] at h
        · refine ⟨fun e => ?_, ?_⟩
          · subst e; rw [h1] at hj1; cases hj1
          · rw [T.get_n, hj0, hj1]; exact h
        · obtain ⟨k1, k2⟩ := T.get_del h
          refine ⟨fun e => k1 (by rw [e]), ?_⟩
          rw [T.get_n, hj0, hj1]; exact k2
      · refine ⟨fun e => hi (e ▸ Nat.eq_of_beq_eq_true hj0), ?_⟩
        rw [T.get_n, hj0]; exact h
    · have hi : i = 0 := Nat.eq_of_beq_eq_true h0
      simp only [T.get_n] at h
      cases hj0 : j.beq 0 <;> rw [hj0] at h <;> simp only [cond_false, cond_true] at h
      · refine ⟨fun e => ?_, ?_⟩
        · rw [e, hi] at hj0; cases hj0
        · rw [T.get_n, hj0]; exact h
      · cases h
theorem guardsOk_spec {os : List Oper} : ∀ {l : List Oper}, guardsOk os l = true → ∀ o ∈ l, ∀ g b, o.guard = some (g, b) → ∃ o' t, os[g]? = some o' ∧ o'.dst = some t
  | [], _, o, h, _, _, _ => by simp at h
  | o' :: l, h, o, hm, g, b, hg => by
    rw [guardsOk] at h
    split at h
    · rename_i hn
      rcases List.mem_cons.1 hm with rfl | hm
      · rw [hn] at hg; cases hg
      · exact guardsOk_spec h o hm g b hg
    · rename_i g' b' hn
      split at h
      · rename_i o2 ho2
        split at h
        · rename_i t ht
          rcases List.mem_cons.1 hm with rfl | hm
          · rw [hn] at hg; cases hg
            rw [nth_eq] at ho2
            exact ⟨o2, t, ho2, ht⟩
          · exact guardsOk_spec h o hm g b hg
        · cases h
      · cases h

/-! ### What an operation finds -/
theorem envAt_congr {anc : List Nat} {V V' : T AV} {i mi : Nat} (h : ∀ j, bit mi j = true → V.get j = V'.get j) : ∀ (l : List Oper) (j : Nat) (A : T AV), envAt anc V i mi l j A = envAt anc V' i mi l j A
  | [], _, _ => rfl
  | o :: l, j, A => by
    rw [envAt, envAt]
    split
    · exact envAt_congr h l (j + 1) A
    · rename_i d hd
      cases hb : bit mi j <;> simp only [cond_false, cond_true]
      · cases (j.beq i || bit ((nth anc j).getD 0) i) <;> simp only [cond_false, cond_true] <;> exact envAt_congr h l (j + 1) _
      · rw [← h j hb]
        split <;> exact envAt_congr h l (j + 1) _
theorem envAt_spec {anc : List Nat} {V : T AV} {i mi : Nat} {t : Nat} {v : AV} : ∀ {l : List Oper} {j : Nat} {A : T AV}, (envAt anc V i mi l j A).get t = some v →
    (∃ k o, l[k]? = some o ∧ o.dst = some t ∧ bit mi (j + k) = true ∧ V.get (j + k) = some v) ∨
    (A.get t = some v ∧ ∀ k o, l[k]? = some o → o.dst = some t → (j + k = i ∨ bit ((nth anc (j + k)).getD 0) i = true))
  | [], j, A, h => .inr ⟨h, fun k o hk => by simp at hk⟩
  | o :: l, j, A, h => by
    rw [envAt] at h
    have lift : ∀ {A' : T AV}, (envAt anc V i mi l (j + 1) A').get t = some v → (∃ k o', (o :: l)[k]? = some o' ∧ o'.dst = some t ∧ bit mi (j + k) = true ∧ V.get (j + k) = some v) ∨
        (A'.get t = some v ∧ ∀ k o', l[k]? = some o' → o'.dst = some t → (j + (k + 1) = i ∨ bit ((nth anc (j + (k + 1))).getD 0) i = true)) := by
      intro A' h
      rcases envAt_spec h with ⟨k, o', k1, k2, k3, k4⟩ | ⟨k1, k2⟩
      · exact .inl ⟨k + 1, o', by simpa using k1, k2, by rw [show j + (k + 1) = j + 1 + k by omega]; exact k3, by rw [show j + (k + 1) = j + 1 + k by omega]; exact k4⟩
      · exact .inr ⟨k1, fun k o' h1 h2 => by have := k2 k o' h1 h2; rwa [show j + 1 + k = j + (k + 1) by omega] at this⟩
    split at h
    · rename_i hd
      rcases lift h with k | ⟨k1, k2⟩
      · exact .inl k
      · refine .inr ⟨k1, fun k o' h1 h2 => ?_⟩
        cases k with
        | zero => simp at h1; subst h1; rw [hd] at h2; cases h2
        | succ k => exact k2 k o' (by simpa using h1) h2
    · rename_i d hd
      have other : ∀ {A' : T AV}, (A'.get t = some v → d ≠ t ∧ A.get t = some v) → (envAt anc V i mi l (j + 1) A').get t = some v → (∃ k o', (o :: l)[k]? = some o' ∧ o'.dst = some t ∧ bit mi (j + k) = true ∧ V.get (j + k) = some v) ∨
          (A.get t = some v ∧ ∀ k o', (o :: l)[k]? = some o' → o'.dst = some t → (j + k = i ∨ bit ((nth anc (j + k)).getD 0) i = true)) := by
        intro A' hA h
        rcases lift h with k | ⟨k1, k2⟩
        · exact .inl k
        · obtain ⟨k3, k4⟩ := hA k1
          refine .inr ⟨k4, fun k o' h1 h2 => ?_⟩
          cases k with
          | zero => simp at h1; subst h1; rw [hd] at h2; cases h2; exact absurd rfl k3
          | succ k => exact k2 k o' (by simpa using h1) h2
      cases hb : bit mi j <;> rw [hb] at h <;> simp only [cond_false, cond_true] at h
      · cases hc : (j.beq i || bit ((nth anc j).getD 0) i) <;> rw [hc] at h <;> simp only [cond_false, cond_true] at h
        · exact other (fun h => let ⟨k1, k2⟩ := T.get_del h; ⟨fun e => k1 e.symm, k2⟩) h
        · rcases lift h with k | ⟨k1, k2⟩
          · exact .inl k
          · refine .inr ⟨k1, fun k o' h1 h2 => ?_⟩
            cases k with
            | zero =>
              simp only [Bool.or_eq_true] at hc
              rcases hc with hc | hc
              · exact .inl (Nat.eq_of_beq_eq_true hc)
              · exact .inr hc
            | succ k => exact k2 k o' (by simpa using h1) h2
      · split at h
        · rename_i u hu
          rcases lift h with k | ⟨k1, k2⟩
          · exact .inl k
          · rcases T.get_set k1 with ⟨rfl, rfl⟩ | ⟨k3, k4⟩
            · exact .inl ⟨0, o, by simp, hd, hb, hu⟩
            · refine .inr ⟨k4, fun k o' h1 h2 => ?_⟩
              cases k with
              | zero => simp at h1; subst h1; rw [hd] at h2; cases h2; exact absurd rfl k3
              | succ k => exact k2 k o' (by simpa using h1) h2
        · exact other (fun h => let ⟨k1, k2⟩ := T.get_del h; ⟨fun e => k1 e.symm, k2⟩) h
theorem wantedD_congr {V V' : T AV} {mi : Nat} (h : ∀ j, bit mi j = true → V.get j = V'.get j) (o : Oper) : wantedD V mi o = wantedD V' mi o := by
  unfold wantedD
  split
  · rfl
  · rename_i g b hg
    cases hb : bit mi g <;> simp only [cond_false, cond_true]
    rw [h g hb]

section
variable {P : Program} {R : Nat → Option Nat} {p : Nat} {η : Env} {ops : Array Oper} {d : Draw} {tm : T AV} {tmps : Array Value} {D : Nat → Prop} {ds : List Deferred}
theorem DrawR.env (h : DrawR P R p η ops d tm tmps D) {i mi : Nat} {o : Oper} (ho : d.ops[i]? = some o) (hp : ∀ e ∈ o.after, Region.binds .any e = true → D e.on) (hi : ¬ D i) (hm : d.anc[i]? = some mi) :
    TR η (envAt d.anc d.V i mi d.ops 0 tm) tmps := by
  intro t v hv
  rcases envAt_spec hv with ⟨k, o', k1, k2, k3, k4⟩ | ⟨k1, k2⟩
  · rw [Nat.zero_add] at k3 k4
    obtain ⟨o2, k5, k6⟩ := h.val k v k4 (anc_ready h.anc h.closed ho hp hm k3)
    rw [k1] at k5; cases k5
    exact k6 t k2
  · refine h.old t v k1 fun j o' h1 h2 h3 => ?_
    rcases k2 j o' h1 h2 with e | e
    · rw [Nat.zero_add] at e; subst e; exact hi h3
    · rw [Nat.zero_add, nth_eq] at e
      cases hj : d.anc[j]? with
      | none => rw [hj, Option.getD_none, bit_zero] at e; cases e
      | some m => rw [hj, Option.getD_some] at e; exact hi (anc_done h.anc h.closed j h3 hj e)
theorem DrawR.want (h : DrawR P R p η ops d tm tmps D) {i mi : Nat} {o : Oper} (ho : d.ops[i]? = some o) (hp : ∀ e ∈ o.after, Region.binds .any e = true → D e.on) (hm : d.anc[i]? = some mi) {b : Bool}
    (hw : wantedD d.V mi o = some b) : Region.wanted o (yielded ops tmps) = b := by
  unfold wantedD at hw
  unfold Region.wanted
  split at hw
  · rename_i hg; cases hw; rw [hg]
  · rename_i g want hg
    rw [hg]
    cases hb : bit mi g <;> rw [hb] at hw <;> simp only [cond_false, cond_true] at hw
    · cases hw
    · have hD := anc_ready h.anc h.closed ho hp hm hb
      obtain ⟨o', t, k1, k2⟩ := guardsOk_spec h.grd o (List.mem_of_getElem? ho) g want hg
      have k1' : ops[g]? = some o' := by rw [← Array.getElem?_toList, ← h.ops]; exact k1
      obtain ⟨v, hv⟩ := h.dom g hD
      obtain ⟨o2, k3, k4⟩ := h.val g v hv hD
      rw [k1] at k3; cases k3
      obtain ⟨x, k5, k6⟩ := k4 t k2
      simp only [yielded, k1', Option.bind_some, k2, k5]
      rw [hv] at hw
      split at hw
      · rename_i c e; cases e; cases hw
        simp only [VR] at k6; subst k6; rfl
      · rename_i e; cases e; cases hw
        simp only [VR, VRs] at k6
        obtain ⟨xs, rfl, _⟩ := k6; rfl
      · cases hw
end
end
end Go.Proofs.YtepkidlndboakaaGreatDoor.Sim
