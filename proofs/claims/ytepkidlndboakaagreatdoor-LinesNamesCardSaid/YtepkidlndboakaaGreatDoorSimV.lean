/-
  SIM, PART V. What a listed variable's datum says of its cells.
-/
import Derived.Test.YtepkidlndboakaaGreatDoorSimU
import Derived.OpenShut
import Derived.LaidLaws
namespace Go.Proofs.YtepkidlndboakaaGreatDoor.Sim
open Go.RowKit (Below)
noncomputable section

mutual
/-- The cells of a datum without addresses. -/
def flatD : DataW Unit → Option (List AV)
  | .lit (.bool b) => some [.bool b]
  | .lit (.int k n) => some [.int k n]
  | .lit (.string l) => some [.str (l.map UInt8.toNat)]
  | .agg ps => flatDs ps
  | _ => none
def flatDs : List (DataW Unit) → Option (List AV)
  | [] => some []
  | d :: l => match flatD d with
    | some a => match flatDs l with
      | some b => some (a ++ b)
      | none => none
    | none => none
end
/-- Fields that lie one behind the other. -/
def contig (P : Program) : List Field → Nat → Option Nat
  | [], o => some o
  | f :: fs, o => bif Nat.beq f.offset o then contig P fs (o + P.cellsOf f.type) else none
def allB {α : Type} (f : α → Bool) : List α → Bool
  | [] => true
  | x :: l => f x && allB f l
/-- A type whose cells lie one behind the other. -/
def dense (P : Program) : Nat → TypeId → Bool
  | 0, _ => false
  | f + 1, t => match P.underlying t with
    | some .bool => Nat.beq (P.cellsOf t) 1
    | some (.int _) => Nat.beq (P.cellsOf t) 1
    | some .string => Nat.beq (P.cellsOf t) 1
    | some (.array n e) => Nat.beq (n * P.cellsOf e) (P.cellsOf t) && dense P f e
    | some (.struct fs) => (match contig P fs.toList 0 with
        | some n => Nat.beq n (P.cellsOf t)
        | none => false) && allB (fun x => dense P f x.type) fs.toList
    | _ => false
theorem allB_spec {α : Type} {f : α → Bool} : ∀ {l : List α}, allB f l = true → ∀ x ∈ l, f x = true
  | [], _, x, h => by simp at h
  | y :: l, h, x, hx => by
    rw [allB, Bool.and_eq_true] at h
    rcases List.mem_cons.1 hx with rfl | hx
    · exact h.1
    · exact allB_spec h.2 x hx
section
variable {P : Program} {W : World} {η : Env} {sp : Nat → Bool} {held : Bool}
theorem take_take_drop {α : Type} (cs : List α) (o a b : Nat) : (cs.drop o).take (a + b) = (cs.drop o).take a ++ (cs.drop (o + a)).take b := by
  rw [List.take_add, List.drop_drop]
theorem flat_of_trod : ∀ (f : Nat) {fuel : Nat} {t : TypeId} {cs : List Value} {d : DataW Unit} {p : List MemPlace} {us : List AV}, dense P f t = true →
    DataW.trod (fun _ => ()) P W 0 sp held fuel t cs = some (d, p) → flatD d = some us → VRs η us cs ∧ cs.length = P.cellsOf t
  | 0, _, _, _, _, _, _, h, _, _ => by cases h
  | f + 1, fuel, t, cs, d, p, us, h, hd, hu => by
    rw [dense] at h
    split at h
    · rename_i ht
      obtain ⟨b, rfl, e⟩ := DataW.trod_bool ht hd
      cases e
      cases hu
      exact ⟨by simp [VRs, VR], (Nat.eq_of_beq_eq_true h).symm⟩
    · rename_i k ht
      obtain ⟨n, rfl, e, _⟩ := DataW.trod_int ht hd
      cases e
      cases hu
      exact ⟨by simp [VRs, VR], (Nat.eq_of_beq_eq_true h).symm⟩
    · rename_i ht
      obtain ⟨s, rfl, e, _⟩ := DataW.trod_string ht hd
      cases e
      cases hu
      exact ⟨by simp [VRs, VR, bytesOf_toNat], (Nat.eq_of_beq_eq_true h).symm⟩
    · rename_i n e ht
      rw [Bool.and_eq_true] at h
      have hlen := Nat.eq_of_beq_eq_true h.1
      obtain ⟨xs, m0, _, e1, hcs, hxl, hat⟩ := DataW.trod_array ht hd
      cases e1
      have key : ∀ (ys : List (DataW Unit × List MemPlace)) (i : Nat) (vs : List AV), (∀ j, j < ys.length → DataW.trod (fun _ => ()) P W 0 sp held m0 e ((cs.drop ((i + j) * P.cellsOf e)).take (P.cellsOf e)) = ys[j]?) →
          flatDs (ys.map (·.1)) = some vs → VRs η vs ((cs.drop (i * P.cellsOf e)).take (ys.length * P.cellsOf e)) := by
        intro ys
        induction ys with
        | nil =>
          intro i vs _ k2
          simp [flatDs] at k2; subst k2
          simp [VRs]
        | cons y zs ih =>
          intro i vs k1 k2
          obtain ⟨yd, yp⟩ := y
          rw [List.map_cons, flatDs] at k2
          split at k2
          · rename_i a ha
            split at k2
            · rename_i b hb; cases k2
              have j1 := k1 0 (by simp)
              rw [Nat.add_zero, List.getElem?_cons_zero] at j1
              obtain ⟨q1, q2⟩ := flat_of_trod f h.2 j1 ha
              have q3 := ih (i + 1) b (fun j hj => by have := k1 (j + 1) (by simp; omega); rw [show i + 1 + j = i + (j + 1) by omega]; simpa using this) hb
              rw [List.length_cons, show (zs.length + 1) * P.cellsOf e = P.cellsOf e + zs.length * P.cellsOf e by rw [Nat.succ_mul]; omega, take_take_drop]
              rw [show (i + 1) * P.cellsOf e = i * P.cellsOf e + P.cellsOf e by rw [Nat.succ_mul]] at q3
              exact q1.append q3
            · cases k2
          · cases k2
      have := key xs 0 us (fun j hj => by rw [Nat.zero_add]; exact hat j (by omega)) hu
      rw [Nat.zero_mul, List.drop_zero, hxl, hlen, List.take_of_length_le (by omega)] at this
      exact ⟨this, hcs⟩
    · rename_i fs ht
      rw [Bool.and_eq_true] at h
      obtain ⟨xs, m0, _, e1, hcs, hxl, hat⟩ := DataW.trod_struct ht hd
      cases e1
      have hall := allB_spec h.2
      have hc := h.1
      split at hc
      · rename_i n hn
        have hlen := Nat.eq_of_beq_eq_true hc
        have key : ∀ (l : List Field) (o : Nat) (ys : List (DataW Unit × List MemPlace)) (vs : List AV), (∀ x ∈ l, dense P f x.type = true) → contig P l o = some n → ys.length = l.length →
            (∀ (j : Nat) (x : Field), l[j]? = some x → DataW.trod (fun _ => ()) P W 0 sp held m0 x.type ((cs.drop x.offset).take (P.cellsOf x.type)) = ys[j]?) →
            flatDs (ys.map (·.1)) = some vs → VRs η vs ((cs.drop o).take (n - o)) ∧ o ≤ n := by
          intro l
          induction l with
          | nil =>
            intro o ys vs _ k0 k1 _ k2
            have : ys = [] := List.length_eq_zero_iff.1 k1
            subst this
            simp [flatDs] at k2; subst k2
            cases k0
            simp [VRs]
          | cons x l ih =>
            intro o ys vs hx k0 kl k1 k2
            cases ys with
            | nil => simp at kl
            | cons y zs =>
              obtain ⟨yd, yp⟩ := y
              rw [contig] at k0
              cases ho : Nat.beq x.offset o with
              | false => rw [ho] at k0; cases k0
              | true =>
                rw [ho] at k0
                simp only [cond_true] at k0
                have ho' := Nat.eq_of_beq_eq_true ho
                have j1 := k1 0 x (by simp)
                rw [ho', List.getElem?_cons_zero] at j1
                rw [List.map_cons, flatDs] at k2
                split at k2
                · rename_i a ha
                  split at k2
                  · rename_i b hb; cases k2
                    obtain ⟨q1, q2⟩ := flat_of_trod f (hx x List.mem_cons_self) j1 ha
                    obtain ⟨q3, q4⟩ := ih (o + P.cellsOf x.type) zs b (fun y hy => hx y (List.mem_cons_of_mem _ hy)) k0 (by simpa using kl) (fun j y hy => by have := k1 (j + 1) y (by simpa using hy); simpa using this) hb
                    refine ⟨?_, by omega⟩
                    rw [show n - o = P.cellsOf x.type + (n - (o + P.cellsOf x.type)) by omega, take_take_drop]
                    exact q1.append q3
                  · cases k2
                · cases k2
        obtain ⟨q1, _⟩ := key fs.toList 0 xs us hall hn (by simpa using hxl) (fun j x hx => hat j x (by simpa using hx)) hu
        rw [List.drop_zero, Nat.sub_zero, hlen, List.take_of_length_le (by omega)] at q1
        exact ⟨q1, hcs⟩
      · cases hc
    · cases h
/-- A listed variable's block. -/
theorem laid_cells {g : Nat} {t : TypeId} {name : String} {vs : Array Value} {d : DataW Unit} {p : List MemPlace} {fuel : Nat} {us : List AV} (f : Nat) (hg : P.globalNamed name = some g) (hv : W.var? P name = some vs)
    (hd : dense P f t = true) (ht : DataW.trod (fun _ => ()) P W 0 sp held fuel t vs.toList = some (d, p)) (hu : flatD d = some us) :
    ∃ e fz, W.heap[g]? = some (.cells vs e fz) ∧ VRs η us vs.toList := by
  unfold World.var? at hv
  rw [hg, Option.bind_some] at hv
  split at hv
  · rename_i cs e fz hb; cases hv
    exact ⟨e, fz, hb, (flat_of_trod f hd ht hu).1⟩
  · cases hv
end
end
end Go.Proofs.YtepkidlndboakaaGreatDoor.Sim
