/-
  SIM, PART H. append, copy, clear; strings turned into bytes and bytes into strings.
-/
import Derived.Test.YtepkidlndboakaaGreatDoorSimG
namespace Go.Proofs.YtepkidlndboakaaGreatDoor.Sim
open Go.RowKit (Below)
noncomputable section

section
variable {P : Program} {W0 : Base} {η : Env} {H : T Blk} {nx ng : Nat} {w : World} {A : T AV} {a : Act}

/-! ### What is appended or copied -/
def srcLen : AV → Option Nat
  | .nilslice => some 0
  | .slice _ _ len _ _ => some len
  | .str s => some s.length
  | _ => none
theorem run_srcLen {x : AV} {vx : Value} {n : Nat} (h : srcLen x = some n) (hx : VR η x vx) : (Builtin.lenOf vx).run P w = .ok n w := by
  unfold srcLen at h
  split at h <;> (try simp only [VR] at hx)
  · subst hx; cases h; rfl
  · obtain ⟨l, hl, rfl⟩ := hx; cases h; rfl
  · subst hx; cases h; simp [Builtin.lenOf, size_bytesOf]
  · cases h
def srcCells (H : T Blk) (size n : Nat) : AV → Option (List AV)
  | .nilslice => some []
  | .slice b off _ _ _ => piece H b off (n * size)
  | .str s => some ((s.take n).map fun b => .int .u8 (.ofNat (b % 256)))
  | _ => none
theorem HR.srcCells (h : HR P W0 η H nx w) {size n : Nat} {x : AV} {vx : Value} {us : List AV} (hs : Sim.srcCells H size n x = some us) (hx : VR η x vx) :
    ∃ c : Array Value, (Builtin.firstCells size n vx).run P w = .ok c w ∧ VRs η us c.toList := by
  unfold Sim.srcCells at hs
  split at hs <;> (try simp only [VR] at hx)
  · subst hx; cases hs; exact ⟨#[], rfl, by simp [VRs]⟩
  · obtain ⟨l, hl, rfl⟩ := hx
    obtain ⟨xs, h1, _, h3⟩ := h.load hs hl
    exact ⟨xs.toArray, h3, by simpa using h1⟩
  · rename_i s
    subst hx; cases hs
    refine ⟨_, rfl, ?_⟩
    have e : ((bytesOf s).extract 0 n).data.toList = (s.take n).map UInt8.ofNat := by
      rw [bytesOf_extract, data_bytesOf]; simp
    rw [Array.toList_map, e, List.map_map]
    exact VRs.map_const _ _ (fun b => by simp [VR]) _
  · cases hs

theorem putB_nil_or {b off : Nat} {us : List AV} {H' : T Blk} (h : putB H b off us = some H') : ∃ vs e ex, H.get b = some (.cells vs e false ex) := by
  unfold putB at h
  split at h
  · rename_i vs e ex hb; exact ⟨vs, e, ex, hb⟩
  · cases h

/-! ### append -/
theorem growBy_le (n : Nat) : ∀ (r c : Nat), c ≤ n + (n + 768) / 4 → Builtin.growBy n r c ≤ n + (n + 768) / 4
  | 0, c, h => h
  | r + 1, c, h => by
    unfold Builtin.growBy
    split
    · exact h
    · exact growBy_le n r _ (by omega)
theorem nextslicecap_le {n o : Nat} (h : o < n) : Builtin.nextslicecap n o ≤ 4 * n + 4096 := by
  unfold Builtin.nextslicecap
  split
  · omega
  · split
    · omega
    · have := growBy_le n 4 o (by omega); omega

def newCap (w : World) (need old : Nat) (e : TypeId) : Nat := need + w.tape w.drawn (.appendCap need old e) % (2 ^ 63 - need)
theorem newCap_le {need old : Nat} {e : TypeId} : need ≤ newCap w need old e := Nat.le_add_right _ _

theorem run_append_in {sT xT rt e : TypeId} {i : TypeInfo} {d : TypeDesc} {base : Option Addr} {len cap n : Nat} {vx : Value} {c : Array Value}
    (hs : P.underlying sT = some (.slice e)) (hi : P.info? e = some i) (hx : P.underlying xT = some d) (hd : ∀ k, d ≠ .int k)
    (hn : (Builtin.lenOf vx).run P w = .ok n w) (hc : (Builtin.firstCells i.size n vx).run P w = .ok c w) (hle : len + n ≤ cap) :
    (Builtin.append_ #[sT, xT] rt #[.slice base len cap, vx]).run P w =
      match base with
      | some a => ((storeCells (a.add (len * i.size)) c.toList).run P w).andThen fun _ w' => .ok (.slice base (len + n) cap) w'
      | none => .ok (.slice base (len + n) cap) w := by
  have hm : (match d with | .int _ => true | _ => false) = false := by cases d <;> first | rfl | exact absurd rfl (hd _)
  have hsz : szOf P e = some i.size := by simp [szOf, hi]
  cases base with
  | none =>
    simp only [Builtin.append_, Sem.run_bind, run_under hs, run_under hx, Result.andThen_ok, run_size hsz, Sem.run_pure, Bool.false_eq_true, if_false, hn, if_pos hle, Bool.not_false, if_true, hc,
      List.getElem?_toArray, List.getElem?_cons_zero, List.getElem?_cons_succ]
  | some a =>
    simp only [Builtin.append_, Sem.run_bind, run_under hs, run_under hx, Result.andThen_ok, run_size hsz, Sem.run_pure, Bool.false_eq_true, if_false, hn, if_pos hle, Bool.not_false, if_true, hc,
      List.getElem?_toArray, List.getElem?_cons_zero, List.getElem?_cons_succ]

theorem run_append_grow {sT xT rt e : TypeId} {i : TypeInfo} {d : TypeDesc} {base : Option Addr} {len cap n : Nat} {vx zx : Value} {c o : Array Value}
    (hs : P.underlying sT = some (.slice e)) (hi : P.info? e = some i) (hx : P.underlying xT = some d) (hd : ∀ k, d ≠ .int k)
    (hn : (Builtin.lenOf vx).run P w = .ok n w) (hc : (Builtin.firstCells i.size n vx).run P w.drew = .ok c w.drew) (ho : (Builtin.firstCells i.size len (.slice base len cap)).run P w.drew = .ok o w.drew)
    (hz : (zeroValue e).run P w.drew = .ok zx w.drew) (hlt : cap < len + n) (h40 : len + n ≤ 1099511627776) (hb : (4 * (len + n) + 4096) * i.bytes ≤ 281474976710656) :
    (Builtin.append_ #[sT, xT] rt #[.slice base len cap, vx]).run P w =
      .ok (.slice (some ⟨w.drew.heap.size, 0, none⟩) (len + n) (newCap w (len + n) cap e)) (w.drew.alloc (.cells (o ++ c ++ Builtin.zeroCells zx.cells (newCap w (len + n) cap e - (len + n))) e)) := by
  have hm : (match d with | .int _ => true | _ => false) = false := by cases d <;> first | rfl | exact absurd rfl (hd _)
  have hsz : szOf P e = some i.size := by simp [szOf, hi]
  have hgt : ¬ (len + n ≤ cap) := by omega
  have hmax : IntKind.i64.max = 9223372036854775807 := by decide
  have h1 : ¬ (((len + n : Nat) : Int) > IntKind.i64.max ∧ (False ∨ i.bytes = 0)) := by rw [hmax]; omega
  have h2 : ¬ (Builtin.nextslicecap (len + n) cap * i.bytes > 2 ^ 48) := by
    have p : (2 : Nat) ^ 48 = 281474976710656 := by decide
    rw [p]
    have := Nat.mul_le_mul_right i.bytes (nextslicecap_le hlt)
    omega
  simp only [Builtin.append_, Sem.run_bind, run_under hs, run_under hx, Result.andThen_ok, run_size hsz, Sem.run_pure, Bool.false_eq_true, if_false, hn, if_neg hgt, run_info hi,
      List.getElem?_toArray, List.getElem?_cons_zero, List.getElem?_cons_succ, if_neg h1, if_neg h2, run_choose, Question.forced, Question.cut, run_askRoom]
  have hdr : ({ w with drawn := w.drawn + 1 } : World) = w.drew := rfl
  simp only [hdr, ho, Sem.run_pure, Result.andThen_ok, Bool.not_false, if_true, hc, hz, Go.newRow, Sem.run_bind, run_newObj]
  rfl

/-- A new row with more room than is known: the cells that are known come first. -/
theorem HR.newRoom (h : HR P W0 η H nx w) {us : List AV} {c : Array Value} {e : TypeId} {sl : Nat} (hc : ∀ (i : Nat) (u : AV), us[i]? = some u → ∃ x, c[i]? = some x ∧ VR η u x) (hle : us.length + sl * P.cellsOf e ≤ c.size) {fz : Nat × Nat} (hf : thaw c fz) :
    ∃ η', η.le η' ∧ HR P W0 η' (H.set (.cells (us.map some) e false false) nx) (nx + 1) (w.alloc (.cells c e fz)) ∧ η' nx = some ⟨w.heap.size, 0, sl⟩ := by
  have hfr := h.fresh nx (Nat.le_refl _)
  have hle' := Env.le_bind hfr ⟨w.heap.size, 0, sl⟩
  refine ⟨_, hle', (h.alloc_nx (sl := sl) ?_).1, Env.bind_same _ _ _⟩
  refine ⟨c, fz, alloc_get _ _, by simpa using hle, fun i v hi => ?_, fun _ => ⟨h.base_le, hf⟩, fun e => by cases e⟩
  rw [List.getElem?_map] at hi
  cases hu : us[i]? with
  | none => rw [hu] at hi; simp at hi
  | some u =>
    rw [hu] at hi; simp at hi; subst hi
    obtain ⟨x, hx, hv⟩ := hc i u hu
    exact ⟨x, by simpa using hx, VR.mono hle' _ _ hv⟩

/-- A block that nobody asks any more. -/
theorem HR.kill (h : HR P W0 η H nx w) (b : Nat) : HR P W0 η (H.set .dead b) nx w := by
  refine ⟨h.below, h.res, h.fresh, fun i c l hc hl => ?_, fun i j c d l m hij hc hd hcd hdd hcr hl hm => ?_⟩
  · rcases T.get_set hc with ⟨rfl, rfl⟩ | ⟨_, hc⟩
    · trivial
    · exact h.blk i c l hc hl
  · rcases T.get_set hc with ⟨_, rfl⟩ | ⟨_, hc⟩
    · exact absurd rfl hcd
    · rcases T.get_set hd with ⟨_, rfl⟩ | ⟨_, hd⟩
      · exact absurd rfl hdd
      · exact h.inj i j c d l m hij hc hd hcd hdd hcr hl hm

def aAppend (P : Program) (H : T Blk) (nx : Nat) (sT xT : TypeId) (s x : AV) : Option ARes :=
  match P.underlying sT with
  | some (.slice e) => match P.info? e with
    | some i => match P.underlying xT with
      | some (.int _) => none
      | none => none
      | some _ => match srcLen x with
        | some n => match srcCells H i.size n x with
          | some us => match zeroOf P e with
            | some z => bif z.cells.length.beq i.size && us.length.beq (n * i.size) then (match s with
              | .nilslice => bif n.beq 0 then some (.val .nilslice H nx) else
                  bif n.ble 1099511627776 && ((4 * n + 4096) * i.bytes).ble 281474976710656 then some (.val (.slice nx 0 n n true) (H.set (.cells (us.map some) e false false) nx) (nx + 1)) else none
              | .slice b off len cap sl => bif (len + n).ble cap then
                  (bif n.beq 0 then some (.val (.slice b off len cap sl) H nx) else
                    match putB H b (off + len * i.size) us with
                    | some H' => some (.val (.slice b off (len + n) cap sl) H' nx)
                    | none => none)
                else bif (len + n).ble 1099511627776 && ((4 * (len + n) + 4096) * i.bytes).ble 281474976710656 then
                  (match piece H b off (len * i.size) with
                    | some os => bif sl then
                        (match H.get b with
                          | some (.cells vs e' false _) => bif e.beq e' && (off + cap * i.size).ble vs.length && us.all AV.one then
                              some (.val (.slice nx 0 (len + n) (len + n) true) ((H.set .dead b).set (.cells ((os ++ us).map some) e false false) nx) (nx + 1)) else none
                          | _ => none)
                      else some (.val (.slice nx 0 (len + n) (len + n) true) (H.set (.cells ((os ++ us).map some) e false false) nx) (nx + 1))
                    | none => none)
                else none
              | _ => none) else none
            | none => none
          | none => none
        | none => none
    | none => none
  | _ => none

theorem size_zeroCells (z : Array Value) (n : Nat) : (Builtin.zeroCells z n).size = n * z.size := by simp [Builtin.zeroCells]

/-- The growing way of an append, behind a heap that may have forgotten a block. -/
theorem HR.appendGrow {H' : T Blk} (h : HR P W0 η H nx w) (h' : HR P W0 η H' nx w) {sT xT rt e : TypeId} {i : TypeInfo} {d : TypeDesc} {base : Option Addr} {len cap n : Nat} {x z : AV} {vx : Value} {os us : List AV}
    (hs : P.underlying sT = some (.slice e)) (hi : P.info? e = some i) (hx : P.underlying xT = some d) (hd : ∀ k, d ≠ .int k)
    (hn : srcLen x = some n) (hus : Sim.srcCells H i.size n x = some us) (hvx : VR η x vx) (hz : zeroOf P e = some z) (hzl : z.cells.length = i.size) (hul : us.length = n * i.size)
    (hol : os.length = len * i.size)
    (ho : ∃ o : Array Value, (Builtin.firstCells i.size len (.slice base len cap)).run P w.drew = .ok o w.drew ∧ VRs η os o.toList)
    (hlt : cap < len + n) (h40 : len + n ≤ 1099511627776) (hb : (4 * (len + n) + 4096) * i.bytes ≤ 281474976710656) :
    VOK P W0 η w (Builtin.append_ #[sT, xT] rt #[.slice base len cap, vx]) (.slice nx 0 (len + n) (len + n) true) (H'.set (.cells ((os ++ us).map some) e false false) nx) (nx + 1) := by
  obtain ⟨zx, hzr, hzv⟩ := run_zero (w := w.drew) (η := η) hz
  obtain ⟨c, hc, hcv⟩ := h.drew.srcCells hus hvx
  obtain ⟨o, hor, hov⟩ := ho
  have hrun := run_append_grow (rt := rt) hs hi hx hd (run_srcLen (w := w) hn hvx) hc hor hzr hlt h40 hb
  have hcs : P.cellsOf e = i.size := by simp [Program.cellsOf, hi]
  have hzs : zx.cells.size = i.size := by have := hzv.cells.length; simp at this; omega
  have hos : o.size = len * i.size := by have := hov.length; simp at this; omega
  have hcl : c.size = n * i.size := by have := hcv.length; simp at this; omega
  obtain ⟨η', g1, g2, g3⟩ := h'.drew.newRoom (us := os ++ us) (c := o ++ c ++ Builtin.zeroCells zx.cells (newCap w (len + n) cap e - (len + n))) (e := e) (sl := newCap w (len + n) cap e - (len + n)) (fz := (0, 0)) (fun k u hk => by
      obtain ⟨y, hy, hr⟩ := (hov.append hcv).get k u hk
      refine ⟨y, ?_, hr⟩
      have hkl : k < (o ++ c).size := by
        have := (List.getElem?_eq_some_iff.1 hy).1
        simpa using this
      rw [Array.getElem?_append_left hkl]
      rw [← Array.getElem?_toList, Array.toList_append]; exact hy)
    (by rw [hcs]; simp only [List.length_append, Array.size_append, size_zeroCells, hzs, hol, hul, hos, hcl]; exact Nat.le_refl _) (thaw_zero _)
  refine ⟨η', _, _, g1, hrun, ?_, g2⟩
  simp only [VR]
  refine ⟨_, g3, ?_⟩
  have hle := newCap_le (w := w) (need := len + n) (old := cap) (e := e)
  simp only [if_true]
  rw [show len + n + (newCap w (len + n) cap e - (len + n)) = newCap w (len + n) cap e by omega]

theorem HR.aAppend (h : HR P W0 η H nx w) {sT xT rt : TypeId} {s x : AV} {vs vx : Value} {r : ARes} (hr : Sim.aAppend P H nx sT xT s x = some r) (hs : VR η s vs) (hx : VR η x vx) :
    ∃ v H' nx', r = .val v H' nx' ∧ VOK P W0 η w (Builtin.append_ #[sT, xT] rt #[vs, vx]) v H' nx' := by
  unfold Sim.aAppend at hr
  split at hr
  · rename_i e hsT
    split at hr
    · rename_i i hi
      split at hr
      · cases hr
      · cases hr
      · rename_i d hd hxT
        split at hr
        · rename_i n hn
          split at hr
          · rename_i us hus
            split at hr
            · rename_i z hz
              cases hb : (z.cells.length.beq i.size && us.length.beq (n * i.size)) <;> simp only [hb, cond_false, cond_true] at hr
              · cases hr
              · simp only [Bool.and_eq_true] at hb
                have hzl : z.cells.length = i.size := Nat.eq_of_beq_eq_true hb.1
                have hul : us.length = n * i.size := Nat.eq_of_beq_eq_true hb.2
                have hd' : ∀ k, d ≠ .int k := fun k e => hd k e
                have hcs : P.cellsOf e = i.size := by simp [Program.cellsOf, hi]
                obtain ⟨c, hcr, hcv⟩ := h.srcCells hus hx
                have hlen := run_srcLen (P := P) (w := w) hn hx
                split at hr
                · simp only [VR] at hs; subst hs
                  cases h0 : n.beq 0 <;> simp only [h0, cond_false, cond_true] at hr
                  · cases h1 : (n.ble 1099511627776 && ((4 * n + 4096) * i.bytes).ble 281474976710656) <;> simp only [h1, cond_false, cond_true] at hr
                    · cases hr
                    · cases hr
                      simp only [Bool.and_eq_true] at h1
                      refine ⟨_, _, _, rfl, ?_⟩
                      have := h.appendGrow (rt := rt) h (os := []) hsT hi hxT hd' hn hus hx hz hzl hul (len := 0) (cap := 0) (base := none) (by simp) ⟨#[], rfl, by simp [VRs]⟩
                        (by have : n ≠ 0 := fun e => by subst e; simp at h0
                            omega) (by rw [Nat.zero_add]; exact Nat.le_of_ble_eq_true h1.1) (by rw [Nat.zero_add]; exact Nat.le_of_ble_eq_true h1.2)
                      simpa using this
                  · cases hr
                    have hn0 : n = 0 := Nat.eq_of_beq_eq_true h0
                    subst hn0
                    refine ⟨_, _, _, rfl, η, w, .slice none 0 0, Env.le_refl _, ?_, by simp [VR], h⟩
                    rw [run_append_in (rt := rt) hsT hi hxT hd' hlen hcr (by omega)]
                · rename_i b off len cap sl
                  have hs0 := hs
                  simp only [VR] at hs; obtain ⟨l, hl, rfl⟩ := hs
                  have hcap : cap ≤ (if sl = true then cap + l.sl else cap) := by split <;> omega
                  cases h1 : (len + n).ble cap <;> simp only [h1, cond_false, cond_true] at hr
                  · have hgt : cap < len + n := by
                      rcases Nat.lt_or_ge cap (len + n) with h | h
                      · exact h
                      · rw [Nat.ble_eq_true_of_le h] at h1; cases h1
                    cases h2 : ((len + n).ble 1099511627776 && ((4 * (len + n) + 4096) * i.bytes).ble 281474976710656) <;> simp only [h2, cond_false, cond_true] at hr
                    · cases hr
                    · simp only [Bool.and_eq_true] at h2
                      have h40 := Nat.le_of_ble_eq_true h2.1
                      have hbb := Nat.le_of_ble_eq_true h2.2
                      split at hr
                      · rename_i os hos
                        obtain ⟨xs, _, hol, hov, hoc⟩ := h.piece hos hl
                        have hofc : ∃ o : Array Value, (Builtin.firstCells i.size len (.slice (some ⟨l.B, l.sh + off, none⟩) len (if sl = true then cap + l.sl else cap))).run P w.drew = .ok o w.drew ∧ VRs η os o.toList := by
                          obtain ⟨ys, y1, _, y3⟩ := h.drew.load hos hl
                          exact ⟨ys.toArray, y3, by simpa using y1⟩
                        cases sl with
                        | false =>
                          simp only [cond_false] at hr; cases hr
                          exact ⟨_, _, _, rfl, h.appendGrow (rt := rt) h hsT hi hxT hd' hn hus hx hz hzl hul hol hofc (by simpa using hgt) h40 hbb⟩
                        | true =>
                          simp only [cond_true] at hr
                          split at hr
                          · rename_i vs e' ex hblk
                            cases h3 : (e.beq e' && (off + cap * i.size).ble vs.length && us.all AV.one) <;> simp only [h3, cond_false, cond_true] at hr
                            · cases hr
                            · cases hr
                              simp only [Bool.and_eq_true] at h3
                              have he : e = e' := Nat.eq_of_beq_eq_true h3.1.1
                              have hoff := Nat.le_of_ble_eq_true h3.1.2
                              have hone := h3.2
                              subst he
                              refine ⟨_, _, _, rfl, ?_⟩
                              by_cases hin : len + n ≤ cap + l.sl
                              · -- in place
                                obtain ⟨cc, fz, hw, hsz, hcell, hro, _⟩ := h.blk b _ l hblk hl
                                obtain ⟨hB, ht⟩ := hro rfl
                                rw [hcs] at hsz
                                have hm : (len + n) * i.size ≤ (cap + l.sl) * i.size := Nat.mul_le_mul_right _ hin
                                rw [Nat.add_mul, Nat.add_mul] at hm
                                have hcl : c.toList.length = n * i.size := by rw [hcv.length]; exact hul
                                have hst := run_storeCells' (P := P) l.B (l.sh + off + len * i.size) c.toList 0 cc e fz w hw ht (by rw [hcl]; omega) (hcv.ones hone)
                                have hlt := (Array.getElem?_eq_some_iff.1 hw).1
                                have hmv := h.move (nx := nx) (b' := .cells ((os ++ us).map some) e false false) (l' := ⟨l.B, l.sh + off, cap + l.sl - (len + n)⟩) hblk rfl hl (setRow_same (w := w) (c := setFrom cc (l.sh + off + len * i.size + 0) c.toList) (e := e) (fz := fz)) hB rfl ?_
                                · refine ⟨_, _, .slice (some ⟨l.B, l.sh + off, none⟩) (len + n) (cap + l.sl), hmv.2, ?_, ?_, hmv.1⟩
                                  · rw [run_append_in (rt := rt) hsT hi hxT hd' hlen hcr (by simpa using hin)]
                                    simp only [if_true, add_addr, hst, Result.andThen_ok]
                                  · simp only [VR]
                                    refine ⟨_, Env.bind_same _ _ _, ?_⟩
                                    simp only [if_true, Nat.add_zero]
                                    rw [show len + n + (cap + l.sl - (len + n)) = cap + l.sl by omega]
                                · refine ⟨_, fz, setRow_get hlt, ?_, ?_, fun _ => ⟨hB, fun o ho => ht o (by rwa [size_setFrom] at ho)⟩, fun e => by cases e⟩
                                  · rw [size_setFrom, hcs]
                                    simp only [List.length_map, List.length_append, hol, hul]
                                    have hsub : (cap + l.sl - (len + n)) * i.size = (cap + l.sl) * i.size - (len + n) * i.size := Nat.sub_mul _ _ _
                                    rw [hsub, Nat.add_mul, Nat.add_mul]
                                    omega
                                  · intro k v hk
                                    have hle2 := Env.le_bind (h.fresh nx (Nat.le_refl _)) ⟨l.B, l.sh + off, cap + l.sl - (len + n)⟩
                                    rw [List.getElem?_map] at hk
                                    cases hu : (os ++ us)[k]? with
                                    | none => rw [hu] at hk; simp at hk
                                    | some u =>
                                      rw [hu] at hk; simp at hk; subst hk
                                      show ∃ x, (setFrom cc (l.sh + off + len * i.size + 0) c.toList)[l.sh + off + k]? = some x ∧ _
                                      rw [get_setFrom _ _ _ _ (by rw [hcl]; omega)]
                                      by_cases hk1 : k < os.length
                                      · rw [List.getElem?_append_left hk1] at hu
                                        rw [if_neg (by omega)]
                                        have hp := (List.getElem?_eq_some_iff.1 hu).1
                                        obtain ⟨y, hy, hr⟩ := hov.get k u hu
                                        refine ⟨y, ?_, VR.mono hle2 _ _ hr⟩
                                        have := hoc k y hy
                                        simpa [World.cell?, hw] using this
                                      · rw [List.getElem?_append_right (by omega)] at hu
                                        have hp := (List.getElem?_eq_some_iff.1 hu).1
                                        rw [if_pos (by rw [hcl]; omega)]
                                        obtain ⟨y, hy, hr⟩ := hcv.get _ u hu
                                        refine ⟨y, ?_, VR.mono hle2 _ _ hr⟩
                                        rw [← hy]
                                        congr 1
                                        omega
                              · exact h.appendGrow (rt := rt) (h.kill b) hsT hi hxT hd' hn hus hx hz hzl hul hol hofc (by simp; omega) h40 hbb
                          · cases hr
                      · cases hr
                  · have hle := Nat.le_of_ble_eq_true h1
                    cases h0 : n.beq 0 <;> simp only [h0, cond_false, cond_true] at hr
                    · split at hr
                      · rename_i H' hH; cases hr
                        obtain ⟨w', s1, s2, _⟩ := h.store hH hl hcv
                        refine ⟨_, _, _, rfl, η, w', .slice (some ⟨l.B, l.sh + off, none⟩) (len + n) (if sl = true then cap + l.sl else cap), Env.le_refl _, ?_, by simp only [VR]; exact ⟨l, hl, rfl⟩, s2⟩
                        rw [run_append_in (rt := rt) hsT hi hxT hd' hlen hcr (by omega)]
                        simp only [add_addr]
                        rw [show l.sh + off + len * i.size = l.sh + (off + len * i.size) by omega, s1]
                        rfl
                      · cases hr
                    · cases hr
                      have hn0 : n = 0 := Nat.eq_of_beq_eq_true h0
                      subst hn0
                      refine ⟨_, _, _, rfl, η, w, _, Env.le_refl _, ?_, hs0, h⟩
                      rw [run_append_in (rt := rt) hsT hi hxT hd' hlen hcr (by omega)]
                      have hc0 : c.toList = [] := by
                        have := hcv.length
                        rw [hul, Nat.zero_mul] at this
                        exact List.eq_nil_of_length_eq_zero this
                      simp only [hc0, storeCells, Sem.run_pure, Result.andThen_ok, Nat.add_zero]
                · cases hr
            · cases hr
          · cases hr
        · cases hr
    · cases hr
  · cases hr

end
end
end Go.Proofs.YtepkidlndboakaaGreatDoor.Sim
