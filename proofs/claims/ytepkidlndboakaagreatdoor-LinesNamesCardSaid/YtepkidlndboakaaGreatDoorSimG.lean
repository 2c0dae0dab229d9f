/-
  SIM, PART G. The operations that act: allocations, stores, appends, conversions that make memory, iterators.
-/
import Derived.Test.YtepkidlndboakaaGreatDoorSimF
namespace Go.Proofs.YtepkidlndboakaaGreatDoor.Sim
open Go.RowKit (Below)
noncomputable section

section
variable {P : Program} {W0 : Base} {η : Env} {H : T Blk} {nx ng : Nat} {w : World} {A : T AV} {a : Act}

/-! ### New rows -/
theorem alloc_get (w : World) (o : Obj) : (w.alloc o).heap[w.heap.size]? = some o := by
  show (w.heap.push o)[w.heap.size]? = some o
  simp
theorem run_zeros {e : TypeId} {n : Nat} {zx : Value} {K : Array Value → Sem Value} (h : (zeroValue e).run P w = .ok zx w) :
    (if n = 0 then (do let zero ← pure #[]; K zero) else (do let x ← zeroValue e; let zero ← pure x.cells; K zero)).run P w = (K (if n = 0 then #[] else zx.cells)).run P w := by
  split
  · rfl
  · simp [h]
theorem thaw_zero (c : Array Value) : thaw c (0, 0) := fun o _ => by simp
/-- A new row of cells whose contents are known. -/
theorem HR.newRow (h : HR P W0 η H nx w) {us : List AV} {c : Array Value} {e : TypeId} (hc : VRs η us c.toList) :
    ∃ η', η.le η' ∧ HR P W0 η' (H.set (.cells (us.map some) e false true) nx) (nx + 1) (w.alloc (.cells c e)) ∧ η' nx = some ⟨w.heap.size, 0, 0⟩ := by
  have hfr := h.fresh nx (Nat.le_refl _)
  have hle := Env.le_bind hfr ⟨w.heap.size, 0, 0⟩
  have hlen := hc.length
  have hsz : c.size = us.length := by simpa using hlen
  refine ⟨_, hle, (h.alloc_nx (sl := 0) ?_).1, Env.bind_same _ _ _⟩
  refine ⟨c, (0, 0), alloc_get _ _, by simp [hsz], fun i v hi => ?_, fun _ => ⟨h.base_le, thaw_zero c⟩, fun _ => ⟨rfl, by simp [hsz]⟩⟩
  rw [List.getElem?_map] at hi
  cases hu : us[i]? with
  | none => rw [hu] at hi; simp at hi
  | some u =>
    rw [hu] at hi; simp at hi; subst hi
    obtain ⟨x, hx, hv⟩ := hc.get i u hu
    exact ⟨x, by simpa using hx, VR.mono hle _ _ hv⟩

/-! ### Repeated zero values -/
def zrep (z : List AV) (n : Nat) : List AV := (List.range n).map fun i => (nth z (i % z.length)).getD .nilptr
theorem zrep_VRs {z : List AV} {zc : Array Value} (hz : VRs η z zc.toList) (n : Nat) (h0 : n = 0 ∨ 0 < z.length) : VRs η (zrep z n) ((Array.range n).map (fun i => zc[i % zc.size]!)).toList := by
  have hs : zc.size = z.length := by simpa using hz.length
  refine VRs.of_get (by simp [zrep]) fun i v x hv hx => ?_
  simp only [zrep, List.getElem?_map] at hv
  simp only [Array.toList_map, Array.toList_range, List.getElem?_map] at hx
  by_cases hi : i < n
  · rw [List.getElem?_range hi] at hv hx
    simp only [Option.map_some, Option.some.injEq] at hv hx
    subst hv; subst hx
    rw [hs]
    have hlt : i % z.length < z.length := Nat.mod_lt _ (by omega)
    rw [nth_eq, List.getElem?_eq_getElem hlt, Option.getD_some]
    obtain ⟨y, hy, hr⟩ := hz.get (i % z.length) _ (List.getElem?_eq_getElem hlt)
    have : zc[i % z.length]! = y := by
      have h1 : zc[i % z.length]? = some y := by simpa using hy
      rw [getElem!_def, h1]
    rw [this]; exact hr
  · rw [List.getElem?_eq_none (by simp; omega)] at hv
    simp at hv

/-- What an acting operation leaves: its value, if it has one; the heap; the next number. -/
inductive ARes where
  | val (v : AV) (H : T Blk) (nx : Nat)
  | skip (H : T Blk) (nx : Nat)

/-- What it does is done by the machine. -/
def ARes.ok (P : Program) (W0 : Base) (η : Env) (w : World) (s : Sem Next) : ARes → Prop
  | .val v H' nx' => ∃ η' w' x, η.le η' ∧ s.run P w = .ok (.value x) w' ∧ VR η' v x ∧ HR P W0 η' H' nx' w'
  | .skip H' nx' => ∃ η' w', η.le η' ∧ s.run P w = .ok .skip w' ∧ HR P W0 η' H' nx' w'
def VOK (P : Program) (W0 : Base) (η : Env) (w : World) (s : Sem Value) (v : AV) (H' : T Blk) (nx' : Nat) : Prop :=
  ∃ η' w' x, η.le η' ∧ s.run P w = .ok x w' ∧ VR η' v x ∧ HR P W0 η' H' nx' w'

def aAlloc (P : Program) (H : T Blk) (nx : Nat) (e : TypeId) : Option ARes := match zeroOf P e with
  | some z => some (.val (.ptr nx 0) (H.set (.cells (z.cells.map some) e false true) nx) (nx + 1))
  | none => none
theorem HR.aBox (h : HR P W0 η H nx w) {e : TypeId} {v : AV} {x : Value} (hx : VR η v x) :
    VOK P W0 η w (Instr.box e x) (.ptr nx 0) (H.set (.cells (v.cells.map some) e false true) nx) (nx + 1) := by
  obtain ⟨η', h1, h2, h3⟩ := h.newRow (e := e) hx.cells
  exact ⟨η', _, .pointer (some ⟨w.heap.size, 0, none⟩), h1, by simp [Instr.box, newVar, Go.newRow], by simp only [VR]; exact ⟨_, h3, rfl⟩, h2⟩
theorem HR.aAlloc (h : HR P W0 η H nx w) {e : TypeId} {r : ARes} (hr : Sim.aAlloc P H nx e = some r) :
    r.ok P W0 η w (do pure (.value (← Instr.alloc e true (.tuple #[])))) := by
  unfold Sim.aAlloc at hr
  split at hr
  · rename_i z hz; cases hr
    obtain ⟨zx, hzr, hzv⟩ := run_zero (w := w) (η := η) hz
    obtain ⟨η', h1, h2, h3⟩ := h.newRow (e := e) hzv.cells
    exact ⟨η', _, .pointer (some ⟨w.heap.size, 0, none⟩), h1, by simp [Instr.alloc, hzr, newVar, Go.newRow], by simp only [VR]; exact ⟨_, h3, rfl⟩, h2⟩
  · cases hr

def aBuildSlice (P : Program) (H : T Blk) (nx : Nat) (t : TypeId) (len : Nat) (parts : List (Nat × AV)) : Option ARes := match P.underlying t with
  | some (.slice e) => match szOf P e with
    | some n => match zeroOf P e with
      | some z => bif (len * n).ble 16777216 && z.cells.length.beq n then
          (match fillB (fun i => some (i * n, n)) (zrep z.cells (len * n)) parts with
            | some cs => some (.val (.slice nx 0 len len false) (H.set (.cells (cs.map some) e false true) nx) (nx + 1))
            | none => none)
        else none
      | none => none
    | none => none
  | _ => none
theorem HR.aBuildSlice (h : HR P W0 η H nx w) {t : TypeId} {len : Nat} {parts : List (Nat × AV)} {ps : List (Nat × Value)} {r : ARes} (hr : Sim.aBuildSlice P H nx t len parts = some r)
    (hp : ps.map (·.1) = parts.map (·.1)) (hv : VRs η (parts.map (·.2)) (ps.map (·.2))) :
    r.ok P W0 η w (do pure (.value (← Instr.buildSlice t len ps.toArray))) := by
  unfold Sim.aBuildSlice at hr
  split at hr
  · rename_i e hu
    split at hr
    · rename_i n hn
      split at hr
      · rename_i z hz
        cases hc : ((len * n).ble 16777216 && z.cells.length.beq n) <;> simp only [hc, cond_false, cond_true] at hr
        · cases hr
        · simp only [Bool.and_eq_true] at hc
          have h1 : len * n ≤ 16777216 := Nat.le_of_ble_eq_true hc.1
          have h2 : z.cells.length = n := Nat.eq_of_beq_eq_true hc.2
          split at hr
          · rename_i cs hcs; cases hr
            obtain ⟨zx, hzr, hzv⟩ := run_zero (w := w) (η := η) hz
            have key : ∃ zc : Array Value, zc = (if len * n = 0 then #[] else zx.cells) ∧
                VRs η (zrep z.cells (len * n)) ((Array.range (len * n)).map (fun i => zc[i % zc.size]!)).toList := by
              by_cases h0 : len * n = 0
              · exact ⟨#[], by rw [if_pos h0], by rw [h0]; simp [zrep, VRs]⟩
              · refine ⟨zx.cells, by rw [if_neg h0], zrep_VRs hzv.cells _ (.inr ?_)⟩
                rw [h2]; exact Nat.pos_of_ne_zero fun e => h0 (by rw [e, Nat.mul_zero])
            obtain ⟨zc, hz1, hz2⟩ := key
            obtain ⟨c', hf1, hf2⟩ := fillB_spec (c := (Array.range (len * n)).map (fun i => zc[i % zc.size]!)) hcs hz2 hp hv
            obtain ⟨η', g1, g2, g3⟩ := h.newRow (e := e) hf2
            refine ⟨η', _, .slice (some ⟨w.heap.size, 0, none⟩) len len, g1, ?_, by simp only [VR]; exact ⟨_, g3, by simp⟩, g2⟩
            have hgt : ¬ (len * n > 2 ^ 24) := by have : (2 : Nat) ^ 24 = 16777216 := by decide
                                                  omega
            simp only [Instr.buildSlice, Sem.run_bind, run_under hu, Result.andThen_ok, run_size hn, if_neg hgt]
            rw [run_zeros hzr, ← hz1]
            simp only [hf1, Sem.run_bind, Sem.run_pure, Go.newRow, run_newObj, Result.andThen_ok]
            rfl
          · cases hr
      · cases hr
    · cases hr
  · cases hr

def aMakeSlice (P : Program) (H : T Blk) (nx : Nat) (t : TypeId) (len cap : AV) : Option ARes := match len with
  | .int .i64 (.ofNat l) => match cap with
    | .int .i64 (.ofNat c) => match P.underlying t with
      | some (.slice e) => match P.info? e with
        | some i => match zeroOf P e with
          | some z => bif l.ble c && (i.bytes * c).ble 281474976710656 && c.ble 281474976710656 && z.cells.length.beq i.size && !(i.size.beq 0) then
              some (.val (.slice nx 0 l c false) (H.set (.cells ((zrep z.cells (c * i.size)).map some) e false true) nx) (nx + 1))
            else none
          | none => none
        | none => none
      | _ => none
    | _ => none
  | _ => none
theorem wrap_small {n : Nat} (h : n ≤ 281474976710656) : IntKind.i64.wrap (n : Int) = n := by
  have e : (2 ^ IntKind.i64.bits : Int) = 18446744073709551616 := by decide
  have e2 : (2 ^ (IntKind.i64.bits - 1) : Int) = 9223372036854775808 := by decide
  simp only [IntKind.wrap, e, e2, IntKind.signed]
  have h1 : (n : Int) % 18446744073709551616 = n := Int.emod_eq_of_lt (by omega) (by omega)
  rw [h1]
  have h2 : decide ((n : Int) ≥ 9223372036854775808) = false := by simp; omega
  simp [h2]
theorem HR.aMakeSlice (h : HR P W0 η H nx w) {t : TypeId} {len cap : AV} {vl vc : Value} {r : ARes} (hr : Sim.aMakeSlice P H nx t len cap = some r) (hl : VR η len vl) (hc : VR η cap vc) :
    r.ok P W0 η w (do pure (.value (← Instr.makeSlice t vl vc))) := by
  unfold Sim.aMakeSlice at hr
  split at hr
  · rename_i l
    simp only [VR] at hl; subst hl
    split at hr
    · rename_i c
      simp only [VR] at hc; subst hc
      split at hr
      · rename_i e hu
        split at hr
        · rename_i i hi
          split at hr
          · rename_i z hz
            cases hb : (l.ble c && (i.bytes * c).ble 281474976710656 && c.ble 281474976710656 && z.cells.length.beq i.size && !(i.size.beq 0)) <;> simp only [hb, cond_false, cond_true] at hr
            · cases hr
            · cases hr
              simp only [Bool.and_eq_true] at hb
              obtain ⟨⟨⟨⟨b1, b2⟩, b3⟩, b4⟩, b5⟩ := hb
              have h1 : l ≤ c := Nat.le_of_ble_eq_true b1
              have h2 : i.bytes * c ≤ 281474976710656 := Nat.le_of_ble_eq_true b2
              have h3 : c ≤ 281474976710656 := Nat.le_of_ble_eq_true b3
              have h4 : z.cells.length = i.size := Nat.eq_of_beq_eq_true b4
              have h5 : i.size ≠ 0 := fun e => by rw [e] at b5; simp at b5
              have hsz : szOf P e = some i.size := by simp [szOf, hi]
              obtain ⟨zx, hzr, hzv⟩ := run_zero (w := w) (η := η) hz
              have key : ∃ zc : Array Value, zc = (if c * i.size = 0 then #[] else zx.cells) ∧
                  VRs η (zrep z.cells (c * i.size)) ((Array.range (c * i.size)).map (fun i => zc[i % zc.size]!)).toList := by
                by_cases h0 : c * i.size = 0
                · exact ⟨#[], by rw [if_pos h0], by rw [h0]; simp [zrep, VRs]⟩
                · exact ⟨zx.cells, by rw [if_neg h0], zrep_VRs hzv.cells _ (.inr (by omega))⟩
              obtain ⟨zc, hz1, hz2⟩ := key
              obtain ⟨η', g1, g2, g3⟩ := h.newRow (e := e) hz2
              refine ⟨η', _, .slice (some ⟨w.heap.size, 0, none⟩) l c, g1, ?_, by simp only [VR]; exact ⟨_, g3, by simp⟩, g2⟩
              have w1 := wrap_small (show l ≤ 281474976710656 by omega)
              have w2 := wrap_small h3
              have p48 : (2 : Int) ^ 48 = 281474976710656 := by decide
              have hm : ((i.bytes : Int) * (c : Int)) ≤ 281474976710656 := by
                have : ((i.bytes * c : Nat) : Int) = (i.bytes : Int) * (c : Int) := by simp
                omega
              have c1 : ((decide ((c : Int) < 0) || decide ((i.bytes : Int) * (c : Int) > 281474976710656)) || decide ((l : Int) < 0) || decide ((l : Int) > (c : Int))) = false := by
                simp only [Bool.or_eq_false_iff, decide_eq_false_iff_not]
                exact ⟨⟨⟨by omega, by omega⟩, by omega⟩, by omega⟩
              simp only [Instr.makeSlice, Sem.run_bind, run_under hu, Result.andThen_ok, asInt, asIntOf, Sem.run_pure, run_info hi, Int.ofNat_eq_natCast, w1, w2, p48, c1, Bool.false_eq_true, if_false, run_askRoom, Int.toNat_natCast, run_size hsz]
              rw [run_zeros hzr, ← hz1]
              simp only [Sem.run_bind, Sem.run_pure, Go.newRow, run_newObj, Result.andThen_ok]
              rfl
          · cases hr
        · cases hr
      · cases hr
    · cases hr
  · cases hr

def aMakeMap (H : T Blk) (nx : Nat) : ARes := .val (.map nx) (H.set .emap nx) (nx + 1)
theorem HR.newObj (h : HR P W0 η H nx w) {b : Blk} {o : Obj} (hb : ∀ η' : Env, η.le η' → BR P W0.heap.size η' b ⟨w.heap.size, 0, 0⟩ (w.alloc o)) :
    ∃ η', η.le η' ∧ HR P W0 η' (H.set b nx) (nx + 1) (w.alloc o) ∧ η' nx = some ⟨w.heap.size, 0, 0⟩ := by
  have hle := Env.le_bind (h.fresh nx (Nat.le_refl _)) ⟨w.heap.size, 0, 0⟩
  exact ⟨_, hle, (h.alloc_nx (sl := 0) (hb _ hle)).1, Env.bind_same _ _ _⟩
theorem HR.aMakeMap (h : HR P W0 η H nx w) {t : TypeId} : (Sim.aMakeMap H nx).ok P W0 η w (do pure (.value (← Instr.makeMap t none))) := by
  obtain ⟨η', h1, h2, h3⟩ := h.newObj (b := .emap) (o := .map #[] 0) fun η' _ => ⟨rfl, h.base_le, 0, alloc_get _ _⟩
  exact ⟨η', _, .map (some w.heap.size), h1, by simp [Instr.makeMap], by simp only [VR]; exact ⟨_, h3, rfl⟩, h2⟩
def aRange (P : Program) (H : T Blk) (nx : Nat) (t : TypeId) : AV → Option ARes
  | .str s => match P.underlying t with
    | some .string => some (.val (.ptr nx 0) (H.set (.siter s 0) nx) (nx + 1))
    | _ => none
  | _ => none
theorem HR.aRange (h : HR P W0 η H nx w) {t : TypeId} {x : AV} {vx : Value} {r : ARes} (hr : Sim.aRange P H nx t x = some r) (hx : VR η x vx) :
    r.ok P W0 η w (do pure (.value (← Instr.range t vx))) := by
  unfold Sim.aRange at hr
  split at hr
  · rename_i s
    simp only [VR] at hx; subst hx
    split at hr
    · rename_i hu; cases hr
      obtain ⟨η', h1, h2, h3⟩ := h.newObj (b := .siter s 0) (o := .stringIter (bytesOf s) 0) fun η' _ => ⟨rfl, h.base_le, alloc_get _ _⟩
      exact ⟨η', _, .pointer (some ⟨w.heap.size, 0, none⟩), h1, by simp [Instr.range, run_under hu], by simp only [VR]; exact ⟨_, h3, rfl⟩, h2⟩
    · cases hr
  · cases hr

/-! ### Iterating over a string -/
def setObjAt (w : World) (B : Nat) (o : Obj) : World := { w with heap := w.heap.setIfInBounds B o }
theorem setObjAt_same {B : Nat} {o : Obj} : SameBut w (setObjAt w B o) B :=
  ⟨rfl, rfl, rfl, by simp [setObjAt], fun k hk => by simp [setObjAt, Array.getElem?_setIfInBounds_ne (Ne.symm hk)]⟩
theorem setObjAt_get {B : Nat} {o : Obj} (hB : B < w.heap.size) : (setObjAt w B o).heap[B]? = some o := by simp [setObjAt, hB]
theorem run_setObj' {B : Nat} {o o' : Obj} (h : w.heap[B]? = some o) (hc : ∀ c e f, o ≠ .cells c e f) : (setObj B o').run P w = .ok () (setObjAt w B o') := by
  simp only [setObj, Sem.run, h]
  cases o <;> first | rfl | exact absurd rfl (hc _ _ _)
theorem run_getObj' {B : Nat} {o : Obj} (h : w.heap[B]? = some o) (hc : ∀ c e f, o ≠ .cells c e f) : (getObj B).run P w = .ok o w := by
  simp only [getObj, Sem.run, h]
def aNext (H : T Blk) (nx : Nat) : AV → Option ARes
  | .ptr b 0 => match H.get b with
    | some (.siter s pos) => bif pos.blt s.length then
        (let d := Utf8.decode (bytesOf s) pos
         some (.val (.tuple [.bool true, .int .i64 (.ofNat pos), .int .i32 (.ofNat d.1)]) (H.set (.siter s (pos + d.2)) b) nx))
      else some (.val (.tuple [.bool false]) H nx)
    | _ => none
  | _ => none
theorem HR.aNext (h : HR P W0 η H nx w) {t : TypeId} {x : AV} {vx : Value} {r : ARes} (hr : Sim.aNext H nx x = some r) (hx : VR η x vx) :
    r.ok P W0 η w (do pure (.value (← Instr.next vx true t))) := by
  unfold Sim.aNext at hr
  split at hr
  · rename_i b
    simp only [VR] at hx; obtain ⟨l, hl, rfl⟩ := hx
    split at hr
    · rename_i s pos hb
      obtain ⟨hsh, hB, hw⟩ := h.blk b _ l hb hl
      have hg := run_getObj' (P := P) hw (by simp)
      cases hp : pos.blt s.length <;> simp only [hp, cond_false, cond_true] at hr
      · cases hr
        have hge : ¬ pos < (bytesOf s).size := by
          rw [size_bytesOf]; intro hlt
          have : pos.blt s.length = true := Nat.ble_eq_true_of_le hlt
          rw [this] at hp; cases hp
        refine ⟨η, w, .tuple #[.bool false], Env.le_refl _, ?_, by simp [VR, VRs], h⟩
        simp only [Instr.next, hsh, Nat.add_zero, Sem.run_bind, hg, Result.andThen_ok, if_neg hge]
        rfl
      · cases hr
        have hlt : pos < (bytesOf s).size := by rw [size_bytesOf]; exact Nat.le_of_ble_eq_true hp
        have hs := run_setObj' (P := P) (o' := .stringIter (bytesOf s) (pos + (Utf8.decode (bytesOf s) pos).2)) hw (by simp)
        refine ⟨η, setObjAt w l.B (.stringIter (bytesOf s) (pos + (Utf8.decode (bytesOf s) pos).2)), .tuple #[.bool true, .int .i64 pos, .int .i32 (Utf8.decode (bytesOf s) pos).1], Env.le_refl _, ?_, by simp [VR, VRs], h.upd hb rfl hl setObjAt_same hB ?_⟩
        rotate_left
        · exact ⟨hsh, hB, setObjAt_get (Array.getElem?_eq_some_iff.1 hw).1⟩
        · simp only [Instr.next, hsh, Nat.add_zero, Sem.run_bind, hg, Result.andThen_ok, if_pos hlt, hs]
          rfl
    · cases hr
  · cases hr

/-! ### Stores -/
def aStore (P : Program) (H : T Blk) (nx : Nat) (t : TypeId) (x v : AV) : Option ARes := match x with
  | .ptr b off => match szOf P t with
    | some n => bif v.cells.length.beq n then (match putB H b off v.cells with
        | some H' => some (.skip H' nx)
        | none => none) else none
    | none => none
  | _ => none
theorem HR.aStore (h : HR P W0 η H nx w) {t : TypeId} {x v : AV} {vx vv : Value} {r : ARes} (hr : Sim.aStore P H nx t x v = some r) (hx : VR η x vx) (hv : VR η v vv) :
    r.ok P W0 η w (do Instr.storeAt t vx vv; pure .skip) := by
  unfold Sim.aStore at hr
  split at hr
  · rename_i b off
    simp only [VR] at hx; obtain ⟨l, hl, rfl⟩ := hx
    split at hr
    · rename_i n hn
      cases hb : v.cells.length.beq n <;> simp only [hb, cond_false, cond_true] at hr
      · cases hr
      · split at hr
        · rename_i H' hH; cases hr
          have hlen : v.cells.length = n := Nat.eq_of_beq_eq_true hb
          have hc := hv.cells
          have hcl : vv.cells.size = n := by have := hc.length; simp at this; omega
          obtain ⟨w', h1, h2, _⟩ := h.store hH hl hc
          refine ⟨η, w', Env.le_refl _, ?_, h2⟩
          have hne : ¬ (vv.cells.size ≠ n) := by simp [hcl]
          simp only [Instr.storeAt, Instr.sureAddr, Sem.run_bind, Sem.run_pure, Result.andThen_ok, Go.storeVar, run_size hn, if_neg hne, h1]
        · cases hr
    · cases hr
  · cases hr

end
end
end Go.Proofs.YtepkidlndboakaaGreatDoor.Sim
