/-
  SIM, PART I. copy, clear; strings turned into bytes, bytes read as a string; functions of Go's library that have no Go body.
-/
import Derived.Test.YtepkidlndboakaaGreatDoorSimH
import GoSem.Extern.BytealgIndexByte
import GoSem.Extern.BytealgCount
import GoSem.Extern.BytealgMakeNoZero
import GoSem.Extern.AbiNoEscape
import Derived.Lib.Bytealg
namespace Go.Proofs.YtepkidlndboakaaGreatDoor.Sim
open Go.RowKit (Below)
noncomputable section

section
variable {P : Program} {W0 : Base} {η : Env} {H : T Blk} {nx ng : Nat} {w : World} {A : T AV} {a : Act}

def aCopy (P : Program) (H : T Blk) (nx : Nat) (dT : TypeId) (dst src : AV) : Option ARes :=
  match P.underlying dT with
  | some (.slice e) => match szOf P e with
    | some sz => match srcLen src with
      | some m => match dst with
        | .slice b off dl _ _ => match srcCells H sz (Nat.min m dl) src with
          | some us => bif us.length.beq 0 then some (.val (.int .i64 (.ofNat (Nat.min m dl))) H nx) else
              (match putB H b off us with
                | some H' => some (.val (.int .i64 (.ofNat (Nat.min m dl))) H' nx)
                | none => none)
          | none => none
        | _ => none
      | none => none
    | none => none
  | _ => none
theorem HR.aCopy (h : HR P W0 η H nx w) {dT sT rt : TypeId} {d s : AV} {vd vs : Value} {r : ARes} (hr : Sim.aCopy P H nx dT d s = some r) (hd : VR η d vd) (hs : VR η s vs) :
    ∃ v H' nx', r = .val v H' nx' ∧ VOK P W0 η w (Builtin.copy_ #[dT, sT] rt #[vd, vs]) v H' nx' := by
  unfold Sim.aCopy at hr
  split at hr
  · rename_i e hu
    split at hr
    · rename_i sz hsz
      split at hr
      · rename_i m hm
        split at hr
        · rename_i b off dl cap sl
          split at hr
          · rename_i us hus
            obtain ⟨c, hc, hcv⟩ := h.srcCells hus hs
            have hlen := run_srcLen (P := P) (w := w) hm hs
            simp only [VR] at hd; obtain ⟨l, hl, rfl⟩ := hd
            have hrun : (Builtin.copy_ #[dT, sT] rt #[.slice (some ⟨l.B, l.sh + off, none⟩) dl (if sl = true then cap + l.sl else cap), vs]).run P w =
                ((storeCells ⟨l.B, l.sh + off, none⟩ c.toList).run P w).andThen fun _ w' => .ok (goInt (Nat.min m dl)) w' := by
              simp only [Builtin.copy_, Sem.run_bind, run_under hu, Result.andThen_ok, run_size hsz, Sem.run_pure, hlen, hc, List.getElem?_toArray, List.getElem?_cons_zero, List.getElem?_cons_succ]
            cases h0 : us.length.beq 0 <;> simp only [h0, cond_false, cond_true] at hr
            · split at hr
              · rename_i H' hH; cases hr
                obtain ⟨w', s1, s2, _⟩ := h.store hH hl hcv
                exact ⟨_, _, _, rfl, η, w', goInt (Nat.min m dl), Env.le_refl _, by rw [hrun, s1]; rfl, by simp only [VR, goInt]; rfl, s2⟩
              · cases hr
            · cases hr
              have hc0 : c.toList = [] := List.eq_nil_of_length_eq_zero (by rw [hcv.length]; exact Nat.eq_of_beq_eq_true h0)
              exact ⟨_, _, _, rfl, η, w, goInt (Nat.min m dl), Env.le_refl _, by rw [hrun, hc0]; rfl, by simp only [VR, goInt]; rfl, h⟩
          · cases hr
        · cases hr
      · cases hr
    · cases hr
  · cases hr

def aClear (P : Program) (H : T Blk) (nx : Nat) (t : TypeId) (x : AV) : Option ARes :=
  match P.underlying t with
  | some (.slice e) => match x with
    | .nilslice => some (.val (.tuple []) H nx)
    | .slice b off len _ _ => bif len.beq 0 then some (.val (.tuple []) H nx) else
        (match zeroOf P e with
          | some z => bif z.cells.length.beq 0 then none else
              (match putB H b off (zrep z.cells (len * z.cells.length)) with
                | some H' => some (.val (.tuple []) H' nx)
                | none => none)
          | none => none)
    | _ => none
  | _ => none
theorem HR.aClear (h : HR P W0 η H nx w) {t rt : TypeId} {x : AV} {vx : Value} {r : ARes} (hr : Sim.aClear P H nx t x = some r) (hx : VR η x vx) :
    ∃ v H' nx', r = .val v H' nx' ∧ VOK P W0 η w (Builtin.clear_ #[t] rt #[vx]) v H' nx' := by
  unfold Sim.aClear at hr
  split at hr
  · rename_i e hu
    split at hr
    · simp only [VR] at hx; subst hx; cases hr
      refine ⟨_, _, _, rfl, η, w, .tuple #[], Env.le_refl _, ?_, by simp [VR, VRs], h⟩
      simp only [Builtin.clear_, Sem.run_bind, run_under hu, Result.andThen_ok, List.getElem?_toArray, List.getElem?_cons_zero]
      rfl
    · rename_i b off len cap sl
      simp only [VR] at hx; obtain ⟨l, hl, rfl⟩ := hx
      cases h0 : len.beq 0 <;> simp only [h0, cond_false, cond_true] at hr
      · split at hr
        · rename_i z hz
          cases h1 : z.cells.length.beq 0 <;> simp only [h1, cond_false, cond_true] at hr
          · split at hr
            · rename_i H' hH; cases hr
              obtain ⟨zx, hzr, hzv⟩ := run_zero (w := w) (η := η) hz
              have hzl : zx.cells.size = z.cells.length := by have := hzv.cells.length; simpa using this
              have hne : 0 < z.cells.length := by
                rcases Nat.eq_zero_or_pos z.cells.length with h | h
                · rw [h] at h1; simp at h1
                · exact h
              have hzz := zrep_VRs hzv.cells (len * z.cells.length) (.inr hne)
              obtain ⟨w', s1, s2, _⟩ := h.store hH hl hzz
              refine ⟨_, _, _, rfl, η, w', .tuple #[], Env.le_refl _, ?_, by simp [VR, VRs], s2⟩
              have hzc : (Builtin.zeroCells zx.cells len).toList = ((Array.range (len * z.cells.length)).map (fun i => zx.cells[i % zx.cells.size]!)).toList := by
                simp only [Builtin.zeroCells, hzl]
              obtain ⟨k, rfl⟩ : ∃ k, len = k + 1 := ⟨len - 1, by
                have : len ≠ 0 := fun e => by subst e; simp at h0
                omega⟩
              simp only [Builtin.clear_, Sem.run_bind, run_under hu, Result.andThen_ok, List.getElem?_toArray, List.getElem?_cons_zero, hzr, hzc, s1]
              rfl
            · cases hr
          · cases hr
        · cases hr
      · cases hr
        have hl0 : len = 0 := Nat.eq_of_beq_eq_true h0
        subst hl0
        refine ⟨_, _, _, rfl, η, w, .tuple #[], Env.le_refl _, ?_, by simp [VR, VRs], h⟩
        simp only [Builtin.clear_, Sem.run_bind, run_under hu, Result.andThen_ok, List.getElem?_toArray, List.getElem?_cons_zero]
        rfl
    · cases hr
  · cases hr

/-! ### []byte(s) -/
theorem freeze_new (w : World) (c : Array Value) (e : TypeId) : (w.alloc (.cells c e (0, 0))).freeze ⟨w.heap.size, c.size, none⟩ 1 = w.alloc (.cells c e (c.size, c.size + 1)) := by
  simp only [World.freeze, World.alloc, Nat.one_ne_zero, if_false]
  congr 1
  apply Array.ext_getElem?
  intro k
  rw [Array.getElem?_modify]
  by_cases hk : w.heap.size = k
  · subst hk; simp
  · rw [if_neg hk]; simp only [Array.getElem?_push]; rw [if_neg (Ne.symm hk), if_neg (Ne.symm hk)]
def aBytes (P : Program) (H : T Blk) (nx : Nat) (src dst : TypeId) : AV → Option ARes
  | .str s => match P.underlying src with
    | some _ => match P.underlying dst with
      | some (.slice e) => match P.underlying e with
        | some (.int .u8) => match szOf P e with
          | some 1 => some (.val (.slice nx 0 s.length s.length true) (H.set (.cells ((s.map fun b => AV.int .u8 (.ofNat (b % 256))).map some) e false false) nx) (nx + 1))
          | _ => none
        | _ => none
      | _ => none
    | none => none
  | _ => none
theorem HR.aBytes (h : HR P W0 η H nx w) {src dst : TypeId} {x : AV} {vx : Value} {r : ARes} (hr : Sim.aBytes P H nx src dst x = some r) (hx : VR η x vx) :
    r.ok P W0 η w (do pure (.value (← convert src dst vx))) := by
  unfold Sim.aBytes at hr
  split at hr
  · rename_i s
    simp only [VR] at hx; subst hx
    split at hr
    · rename_i d hs
      split at hr
      · rename_i e hd
        split at hr
        · rename_i he
          split at hr
          · rename_i hsz; cases hr
            have hcs := cellsOf_of hsz
            have hlen : (bytesOf s).size = s.length := size_bytesOf s
            have hel : ((bytesOf s).data.map fun b : UInt8 => Value.int .u8 b.toNat).size = s.length := by rw [Array.size_map]; exact hlen
            have hsz2 : (((bytesOf s).data.map fun b : UInt8 => Value.int .u8 b.toNat) ++ Array.replicate (newCap w s.length 0 e - s.length) (Value.int .u8 0)).size = s.length + (newCap w s.length 0 e - s.length) := by
              simp only [Array.size_append, hel, Array.size_replicate]
            obtain ⟨η', g1, g2, g3⟩ := h.drew.newRoom (us := s.map fun b => AV.int .u8 (.ofNat (b % 256))) (c := ((bytesOf s).data.map fun b : UInt8 => Value.int .u8 b.toNat) ++ Array.replicate (newCap w s.length 0 e - s.length) (Value.int .u8 0)) (e := e)
              (sl := newCap w s.length 0 e - s.length) (fun k u hk => by
                have hk1 := (List.getElem?_eq_some_iff.1 hk).1
                rw [List.length_map] at hk1
                rw [List.getElem?_map] at hk
                obtain ⟨b, hb⟩ : ∃ b, s[k]? = some b := ⟨s[k], List.getElem?_eq_getElem hk1⟩
                rw [hb] at hk; simp at hk; subst hk
                rw [Array.getElem?_append_left (by rw [hel]; exact hk1)]
                refine ⟨.int .u8 (UInt8.ofNat b).toNat, ?_, by simp [VR]⟩
                rw [Array.getElem?_map, ← Array.getElem?_toList, data_bytesOf, List.getElem?_map, hb]
                rfl)
              (by rw [hcs, hsz2]; simp) (fz := (s.length + (newCap w s.length 0 e - s.length), s.length + (newCap w s.length 0 e - s.length) + 1))
              (fun o ho => by rw [hsz2] at ho; simp; omega)
            have hle := newCap_le (w := w) (need := s.length) (old := 0) (e := e)
            refine ⟨η', _, .slice (some ⟨w.drew.heap.size, 0, none⟩) s.length (newCap w s.length 0 e), g1, ?_, ?_, g2⟩
            · have hdr : ({ w with drawn := w.drawn + 1 } : World) = w.drew := rfl
              have hfz := freeze_new w.drew (((bytesOf s).data.map fun b : UInt8 => Value.int .u8 b.toNat) ++ Array.replicate (newCap w s.length 0 e - s.length) (Value.int .u8 0)) e
              rw [hsz2] at hfz
              rw [show w.drew.heap.size = w.heap.size from rfl] at hfz
              have hsh : (w.drew.alloc (.cells (((bytesOf s).data.map fun b : UInt8 => Value.int .u8 b.toNat) ++ Array.replicate (newCap w s.length 0 e - s.length) (Value.int .u8 0)) e (0, 0))).shape? w.heap.size = some (e, s.length + (newCap w s.length 0 e - s.length)) := by
                rw [show w.heap.size = w.drew.heap.size from rfl]; simp only [World.shape?, alloc_get, hsz2]
              have hnc : s.length + w.tape w.drawn (Question.appendCap s.length 0 e) % (2 ^ 63 - s.length) = newCap w s.length 0 e := rfl
              have hal : ∀ (v : World) (o : Obj), ({ v with heap := v.heap.push o } : World) = v.alloc o := fun _ _ => rfl
              simp only [convert, Sem.run_bind, run_under hs, run_under hd, run_under he, Result.andThen_ok, Conv.stringToBytes, run_choose, Question.forced, Question.cut, Bool.false_eq_true, if_false, hlen, hnc, hdr,
                Go.newRow, run_newObj, Sem.run_pure, hal, markStringish, run_shape, hsh, run_freeze, hfz]
              rfl
            · simp only [VR]
              refine ⟨_, g3, ?_⟩
              simp only [if_true]
              rw [show s.length + (newCap w s.length 0 e - s.length) = newCap w s.length 0 e by omega]
          · cases hr
        · cases hr
      · cases hr
    · cases hr
  · cases hr

/-! ### unsafe.String -/
theorem toUInt8_ofNat (n : Nat) : n.toUInt8 = UInt8.ofNat n := rfl
theorem run_loadBytes (B : Nat) : ∀ (is : List Int) (o : Nat) (acc : ByteArray), (∀ (j : Nat) (x : Value), (is.map (Value.int .u8))[j]? = some x → w.cell? ⟨B, o + j, none⟩ = some x) →
    (Go.loadBytes ⟨B, o, none⟩ acc is.length).run P w = .ok (is.foldl (fun r n => r.push (UInt8.ofNat n.toNat)) acc) w
  | [], o, acc, _ => rfl
  | n :: is, o, acc, h => by
    have h0 := h 0 (.int .u8 n) (by simp)
    simp only [Nat.add_zero] at h0
    have ih := run_loadBytes B is (o + 1) (acc.push (UInt8.ofNat n.toNat)) (fun j x hx => by have := h (j + 1) x (by simpa using hx); rwa [show o + (j + 1) = o + 1 + j by omega] at this)
    simp only [List.length_cons, Go.loadBytes, Sem.run_bind, run_load, h0, Result.andThen_ok, add_addr, List.foldl_cons]
    exact ih
theorem liesAt_u8 {e u : TypeId} {count off n : Nat} (hc : P.cellsOf e = 1) (hu : P.underlyingId e = P.underlyingId u) (h : off + n ≤ count) : liesAt P P.depth e count off u n = true := by
  obtain ⟨d, hd⟩ : ∃ d, P.depth = d + 1 := ⟨2 * (P.types.size + Made.depth) + 1, rfl⟩
  have hs : sameLayout P P.depth e u = true := by
    rw [hd]; unfold sameLayout; simp [hu]
  have hr : rowAt P (sameLayout P P.depth · u) P.depth e count off n = true := by
    conv => lhs; arg 3; rw [hd]
    unfold rowAt
    simp only [hc, Nat.one_ne_zero, if_false, Nat.div_one, Nat.mod_one, hs, Bool.and_true]
    simp [h]
  rw [hd]
  unfold liesAt
  rw [hr]; rfl

def aUString (P : Program) (H : T Blk) (nx : Nat) (pt : TypeId) (p n : AV) : Option ARes := match p with
  | .ptr b off => match n with
    | .int _ (.ofNat (k + 1)) => bif (k + 1).ble 281474976710656 then (match P.underlying pt with
      | some (.pointer u) => match H.get b with
        | some (.cells vs e false ex) => match szOf P e with
          | some 1 => bif (P.underlyingId e).beq (P.underlyingId u) && (off + (k + 1)).ble vs.length then
              (match piece H b off (k + 1) with
                | some us => match intsOf us with
                  | some ns => some (.val (.str ns) (H.set (.cells vs e true ex) b) nx)
                  | none => none
                | none => none) else none
          | _ => none
        | _ => none
      | _ => none) else none
    | _ => none
  | _ => none
theorem HR.aUString (h : HR P W0 η H nx w) {pt tt rt : TypeId} {p n : AV} {vp vn : Value} {r : ARes} (hr : Sim.aUString P H nx pt p n = some r) (hp : VR η p vp) (hn : VR η n vn) :
    ∃ v H' nx', r = .val v H' nx' ∧ VOK P W0 η w (Builtin.unsafeString_ #[pt, tt] rt #[vp, vn]) v H' nx' := by
  unfold Sim.aUString at hr
  split at hr
  · rename_i b off
    simp only [VR] at hp; obtain ⟨l, hl, rfl⟩ := hp
    split at hr
    · rename_i kk k
      simp only [VR] at hn; subst hn
      cases h0 : (k + 1).ble 281474976710656 <;> simp only [h0, cond_false, cond_true] at hr
      · cases hr
      · have hk := Nat.le_of_ble_eq_true h0
        split at hr
        · rename_i u hu
          split at hr
          · rename_i vs e ex hb
            split at hr
            · rename_i hsz
              cases h1 : ((P.underlyingId e).beq (P.underlyingId u) && (off + (k + 1)).ble vs.length) <;> simp only [h1, cond_false, cond_true] at hr
              · cases hr
              · simp only [Bool.and_eq_true] at h1
                have he := Nat.eq_of_beq_eq_true h1.1
                have ho := Nat.le_of_ble_eq_true h1.2
                split at hr
                · rename_i us hus
                  split at hr
                  · rename_i ns hns; cases hr
                    obtain ⟨xs, x1, _, x3, x4⟩ := h.piece hus hl
                    obtain ⟨is, rfl, rfl⟩ := intsOf_spec hns x3
                    have hil : is.length = k + 1 := by simpa using x1
                    obtain ⟨c, fz, hw, hsz2, hcell, hro, hex⟩ := h.blk b _ l hb hl
                    obtain ⟨hB, _⟩ := hro rfl
                    have hlt := (Array.getElem?_eq_some_iff.1 hw).1
                    have hlb := run_loadBytes (P := P) (w := w) l.B is (l.sh + off) .empty x4
                    rw [hil] at hlb
                    have hva : (variablesAt ⟨l.B, l.sh + off, none⟩ u (k + 1)).run P w = .ok true w := by
                      have := liesAt_u8 (P := P) (n := k + 1) (off := l.sh + off) (count := c.size / P.cellsOf e) (cellsOf_of hsz) he (by rw [cellsOf_of hsz, Nat.div_one]; omega)
                      simp only [variablesAt, Sem.run_bind, run_program, run_shape, World.shape?, hw, Result.andThen_ok, Sem.run_pure, this]
                    refine ⟨_, _, _, rfl, η, w.freeze ⟨l.B, l.sh + off, none⟩ (k + 1), .string (is.foldl (fun r n => r.push (UInt8.ofNat n.toNat)) ByteArray.empty), Env.le_refl _, ?_, by simp only [VR]; rw [foldl_bytesOf], ?_⟩
                    · have hmax : IntKind.i64.max = 9223372036854775807 := by decide
                      have a1 : ¬ (((k + 1 : Nat) : Int) < 0) := by omega
                      have a2 : ¬ (((k + 1 : Nat) : Int) > IntKind.i64.max) := by rw [hmax]; omega
                      have a3 : ¬ (((k + 1 : Nat) : Int) = 0) := by omega
                      refine Eq.trans (show _ = (bind (asInt (Value.int kk _)) _ : Sem _).run P w from rfl) ?_
                      simp only [asInt, asIntOf, Sem.run_bind, Sem.run_pure, Result.andThen_ok, Int.ofNat_eq_natCast, List.getElem?_toArray, List.getElem?_cons_zero, if_neg a1, if_neg a2, if_neg a3,
                        elemOf, run_under hu, Int.toNat_natCast, hva, if_true, hlb, run_freeze]
                    · have hsame : SameBut w (w.freeze ⟨l.B, l.sh + off, none⟩ (k + 1)) l.B := by
                        unfold World.freeze
                        rw [if_neg (by omega)]
                        exact ⟨rfl, rfl, rfl, by simp, fun j hj => by show (w.heap.modify _ _)[j]? = _; rw [Array.getElem?_modify, if_neg (Ne.symm hj)]⟩
                      refine h.upd hb rfl hl hsame hB ?_
                      have hget : ∃ fz', (w.freeze ⟨l.B, l.sh + off, none⟩ (k + 1)).heap[l.B]? = some (.cells c e fz') := by
                        unfold World.freeze
                        rw [if_neg (by omega)]
                        show ∃ fz', (w.heap.modify _ _)[l.B]? = _
                        rw [Array.getElem?_modify, if_pos rfl, hw]
                        obtain ⟨lo, hi⟩ := fz
                        exact ⟨_, rfl⟩
                      obtain ⟨fz', hg⟩ := hget
                      exact ⟨c, fz', hg, hsz2, hcell, (fun e => by cases e), hex⟩
                  · cases hr
                · cases hr
            · cases hr
          · cases hr
        · cases hr
    · cases hr
  · cases hr

/-! ### Functions without a Go body -/
inductive Ext where
  | idx | cnt | same | mnz
def idxL : List Nat → Nat → Nat → Option Nat
  | [], _, _ => none
  | x :: l, c, i => bif (x % 256).beq (c % 256) then some i else idxL l c (i + 1)
def cntL : List Nat → Nat → Nat → Nat
  | [], _, n => n
  | x :: l, c, n => bif (x % 256).beq (c % 256) then cntL l c (n + 1) else cntL l c n
theorem beq_u8 (x c : Nat) : (UInt8.ofNat x == UInt8.ofNat c) = (x % 256).beq (c % 256) := by
  cases h : (x % 256).beq (c % 256)
  · have : UInt8.ofNat x ≠ UInt8.ofNat c := fun e => by rw [toUInt8_eq.1 e] at h; simp at h
    simp [this]
  · have : UInt8.ofNat x = UInt8.ofNat c := toUInt8_eq.2 (Nat.eq_of_beq_eq_true h)
    simp [this]
theorem idxL_spec (c : Nat) : ∀ (l pre : List Nat), ((List.range' pre.length l.length).find? fun i => (bytesOf (pre ++ l))[i]! == UInt8.ofNat c) = idxL l c pre.length
  | [], pre => rfl
  | x :: l, pre => by
    have hg : (bytesOf (pre ++ x :: l))[pre.length]! = UInt8.ofNat x := by
      have hlt : pre.length < (bytesOf (pre ++ x :: l)).size := by rw [size_bytesOf]; simp
      rw [getElem!_pos (bytesOf (pre ++ x :: l)) pre.length hlt]
      have h2 : (bytesOf (pre ++ x :: l)).data[pre.length]? = some (UInt8.ofNat x) := by
        rw [← Array.getElem?_toList, data_bytesOf, List.getElem?_map]; simp
      have hlt' : pre.length < (bytesOf (pre ++ x :: l)).data.size := hlt
      rw [Array.getElem?_eq_getElem hlt'] at h2
      exact Option.some.inj h2
    rw [List.length_cons, List.range'_succ, List.find?_cons, hg, beq_u8, idxL]
    cases h : (x % 256).beq (c % 256)
    · have ih := idxL_spec c l (pre ++ [x])
      simp only [List.length_append, List.length_singleton, List.append_assoc, List.singleton_append] at ih
      simpa using ih
    · rfl
theorem cntL_spec (c : Nat) : ∀ (l : List Nat) (n : Nat), (l.map UInt8.ofNat).foldl (fun (n : Int) x => if x == UInt8.ofNat c then n + 1 else n) (n : Int) = ((cntL l c n : Nat) : Int)
  | [], _ => rfl
  | x :: l, n => by
    simp only [List.map_cons, List.foldl_cons, cntL, beq_u8]
    cases h : (x % 256).beq (c % 256)
    · simpa using cntL_spec c l n
    · simpa using cntL_spec c l (n + 1)
theorem cntL_spec0 (c : Nat) (l : List Nat) : (l.map UInt8.ofNat).foldl (fun (n : Int) x => if x == UInt8.ofNat c then n + 1 else n) ((0 : Nat) : Int) = ((cntL l c 0 : Nat) : Int) := cntL_spec c l 0

/-- How an external function is named by the model. -/
def Ext.sem (x : Ext) (fn : Func) : Array Value → Sem Value := match x with
  | .idx => Extern.BytealgIndexByte.indexByte
  | .cnt => Extern.BytealgCount.count
  | .same => Extern.AbiNoEscape.same
  | .mnz => Extern.BytealgMakeNoZero.makeNoZero fn.params fn.resultTypes

def aExt (P : Program) (H : T Blk) (nx : Nat) (x : Ext) (rts : List TypeId) (args : List AV) : Option ARes := match x with
  | .idx => match args with
    | [.str s, .int .u8 c] => match idxL s c.toNat 0 with
      | some i => some (.val (.int .i64 (.ofNat i)) H nx)
      | none => some (.val (.int .i64 (-1)) H nx)
    | _ => none
  | .cnt => match args with
    | [.str s, .int .u8 c] => some (.val (.int .i64 (.ofNat (cntL s c.toNat 0))) H nx)
    | _ => none
  | .same => match args with
    | [v] => some (.val v H nx)
    | _ => none
  | .mnz => match args with
    | [.int .i64 (.ofNat n)] => match rts with
      | t :: _ => match P.underlying t with
        | some (.slice e) => match szOf P e with
          | some 1 => bif n.ble 281474976710656 then some (.val (.slice nx 0 n n true) (H.set (.cells (List.replicate n none) e false false) nx) (nx + 1)) else none
          | _ => none
        | _ => none
      | [] => none
    | _ => none
theorem size_digits : ∀ (n t : Nat) (acc : Array Value), (Extern.BytealgMakeNoZero.digits n t acc).size = acc.size + n
  | 0, _, _ => rfl
  | n + 1, t, acc => by rw [Extern.BytealgMakeNoZero.digits, size_digits]; simp; omega
theorem HR.aExt (h : HR P W0 η H nx w) {x : Ext} {fn : Func} {args : List AV} {xs : List Value} {r : ARes} (hr : Sim.aExt P H nx x fn.resultTypes.toList args = some r) (hx : VRs η args xs) :
    ∃ v H' nx', r = .val v H' nx' ∧ VOK P W0 η w (x.sem fn xs.toArray) v H' nx' := by
  unfold Sim.aExt at hr
  split at hr
  · split at hr
    · rename_i s c
      simp only [VRs, VR] at hx
      obtain ⟨_, _, rfl, rfl, _, _, rfl, rfl, rfl⟩ := hx
      have hs := idxL_spec c.toNat s []
      simp only [List.length_nil, List.nil_append] at hs
      have hrun : (Extern.BytealgIndexByte.indexByte #[.string (bytesOf s), .int .u8 c]).run P w = .ok (match idxL s c.toNat 0 with | some i => goInt i | none => goInt (-1)) w := by
        refine Eq.trans (show _ = (bind (Extern.Bytes.bytesOf (Value.string _)) (fun _ => bind (Extern.Bytes.asByte (Value.int .u8 c)) _) : Sem _).run P w from rfl) ?_
        simp only [Extern.Bytes.bytesOf, Extern.Bytes.asByte, Sem.run_bind, Sem.run_pure, Result.andThen_ok, size_bytesOf, List.range_eq_range', toUInt8_ofNat, hs]
        cases idxL s c.toNat 0 <;> rfl
      split at hr
      · rename_i i hi; cases hr
        exact ⟨_, _, _, rfl, η, w, goInt i, Env.le_refl _, by rw [show Ext.sem .idx fn = Extern.BytealgIndexByte.indexByte from rfl, hrun, hi], by simp only [VR, goInt]; rfl, h⟩
      · rename_i hi; cases hr
        exact ⟨_, _, _, rfl, η, w, goInt (-1), Env.le_refl _, by rw [show Ext.sem .idx fn = Extern.BytealgIndexByte.indexByte from rfl, hrun, hi], by simp only [VR, goInt], h⟩
    · cases hr
  · split at hr
    · rename_i s c
      simp only [VRs, VR] at hx
      obtain ⟨_, _, rfl, rfl, _, _, rfl, rfl, rfl⟩ := hx
      cases hr
      refine ⟨_, _, _, rfl, η, w, goInt (cntL s c.toNat 0), Env.le_refl _, ?_, by simp only [VR, goInt]; rfl, h⟩
      refine Eq.trans (show _ = (bind (Extern.Bytes.bytesOf (Value.string _)) (fun _ => bind (Extern.Bytes.asByte (Value.int .u8 c)) _) : Sem _).run P w from rfl) ?_
      simp only [Extern.Bytes.bytesOf, Extern.Bytes.asByte, Sem.run_bind, Sem.run_pure, Result.andThen_ok, toUInt8_ofNat, Lib.foldl_data, data_bytesOf, cntL_spec0]
    · cases hr
  · split at hr
    · simp only [VRs] at hx
      obtain ⟨y, _, rfl, hy, rfl⟩ := hx
      cases hr
      exact ⟨_, _, _, rfl, η, w, y, Env.le_refl _, rfl, hy, h⟩
    · cases hr
  · split at hr
    · rename_i n
      simp only [VRs, VR] at hx
      obtain ⟨_, _, rfl, rfl, rfl⟩ := hx
      split at hr
      · rename_i t ts hts
        split at hr
        · rename_i e hu
          split at hr
          · rename_i hsz
            cases h0 : n.ble 281474976710656 <;> simp only [h0, cond_false, cond_true] at hr
            · cases hr
            · cases hr
              have hn := Nat.le_of_ble_eq_true h0
              have hcs := cellsOf_of hsz
              have hrt : fn.resultTypes[0]? = some t := by rw [← Array.getElem?_toList, hts]; rfl
              obtain ⟨by_, hby⟩ : ∃ b, b = (Question.extern "internal/bytealg.MakeNoZero.bytes" 0).cut (w.drew.tape w.drew.drawn (.extern "internal/bytealg.MakeNoZero.bytes" 0)) := ⟨_, rfl⟩
              have hle := newCap_le (w := w) (need := n) (old := 0) (e := e)
              have hfr := h.fresh nx (Nat.le_refl _)
              have hle' := Env.le_bind hfr ⟨w.drew.drew.heap.size, 0, newCap w n 0 e - n⟩
              have g2 := (h.drew.drew.alloc_nx (sl := newCap w n 0 e - n) (blk := .cells (List.replicate n none) e false false) (o := .cells (Extern.BytealgMakeNoZero.digits (newCap w n 0 e) by_ #[]) e) ?_).1
              · refine ⟨_, _, _, rfl, _, _, .slice (some ⟨w.drew.drew.heap.size, 0, none⟩) n (newCap w n 0 e), hle', ?_, ?_, g2⟩
                · have p48 : (2 : Int) ^ 48 = 281474976710656 := by decide
                  have c1 : (decide ((n : Int) < 0) || decide ((n : Int) > 281474976710656)) = false := by
                    simp only [Bool.or_eq_false_iff, decide_eq_false_iff_not]; exact ⟨by omega, by omega⟩
                  have hdr : ∀ v : World, ({ v with drawn := v.drawn + 1 } : World) = v.drew := fun _ => rfl
                  have hal : ∀ (v : World) (o : Obj), ({ v with heap := v.heap.push o } : World) = v.alloc o := fun _ _ => rfl
                  have hnc : n + w.tape w.drawn (Question.appendCap n 0 e) % (2 ^ 63 - n) = newCap w n 0 e := rfl
                  have hf0 : (Question.extern "internal/bytealg.MakeNoZero.bytes" 0).forced = false := rfl
                  have hf1 : (Question.appendCap n 0 e).forced = false := rfl
                  have hc1 : (Question.appendCap n 0 e).cut (w.tape w.drawn (Question.appendCap n 0 e)) = newCap w n 0 e := rfl
                  refine Eq.trans (show _ = (Extern.BytealgMakeNoZero.makeNoZero fn.params fn.resultTypes #[.int .i64 ((n : Nat) : Int)]).run P w from rfl) ?_
                  obtain ⟨rl, hrl⟩ : ∃ rl, rl = fn.resultTypes := ⟨_, rfl⟩
                  rw [← hrl] at hrt ⊢
                  obtain ⟨rl⟩ := rl
                  obtain ⟨r0, rs, rfl⟩ : ∃ r0 rs, rl = r0 :: rs := by cases rl with | nil => simp at hrt | cons a b => exact ⟨a, b, rfl⟩
                  obtain rfl : r0 = t := by simpa using hrt
                  refine Eq.trans (show _ = (bind (underlying r0) _ : Sem _).run P w from rfl) ?_
                  simp only [Sem.run_bind, run_under hu, Result.andThen_ok, p48, c1, Bool.false_eq_true, if_false, run_choose, Int.toNat_natCast, hf0, hf1, hc1, run_askRoom,
                    hdr, ← hby, Go.newRow, run_newObj, Sem.run_pure, hal]
                · simp only [VR]
                  refine ⟨_, Env.bind_same _ _ _, ?_⟩
                  simp only [if_true]
                  rw [show n + (newCap w n 0 e - n) = newCap w n 0 e by omega]
              · refine ⟨_, (0, 0), alloc_get _ _, ?_, fun i v hi => ?_, fun _ => ⟨h.base_le, thaw_zero _⟩, fun e => by cases e⟩
                · rw [size_digits, hcs]; simp; omega
                · rw [List.getElem?_replicate] at hi
                  split at hi <;> simp at hi
          · cases hr
        · cases hr
      · cases hr
    · cases hr

end
end
end Go.Proofs.YtepkidlndboakaaGreatDoor.Sim
