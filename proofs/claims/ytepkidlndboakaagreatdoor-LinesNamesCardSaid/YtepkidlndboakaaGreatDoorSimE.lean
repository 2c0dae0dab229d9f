/-
  SIM, PART E. Slicing, addresses, indices, look-ups, assertions; all quiet operations under one name.
-/
import Derived.Test.YtepkidlndboakaaGreatDoorSimD
namespace Go.Proofs.YtepkidlndboakaaGreatDoor.Sim
open Go.RowKit (Below)
noncomputable section

section
variable {P : Program} {W0 : Base} {η : Env} {H : T Blk} {nx : Nat} {w : World}

/-! ### Slicing -/
/-- A bound that stands, or is left out. -/
def bound (y : Nat) (dflt : Nat) : Option AV → Option Nat
  | none => some dflt
  | some (.int _ i) => match i with
    | .ofNat n => bif n.ble y then some n else none
    | .negSucc _ => none
  | _ => none
def BV (η : Env) : Option AV → Option Value → Prop
  | none, x => x = none
  | some v, x => ∃ y, x = some y ∧ VR η v y
theorem run_sliceBound {k : IntKind} {n y : Nat} {code : BoundsCode} (h : n ≤ y) : (Instr.sliceBound (.int k (n : Int)) y code).run P w = .ok n w := by
  have h1 : (0 : Int) ≤ (n : Int) ∧ (n : Int) ≤ (y : Int) := ⟨by omega, by omega⟩
  simp only [Instr.sliceBound, asIntOf, Sem.run_bind, Sem.run_pure, Result.andThen_ok, if_pos h1]
  simp
theorem bound_spec {y dflt n : Nat} {o : Option AV} {x : Option Value} (h : bound y dflt o = some n) (hx : BV η o x) :
    (x = none ∧ n = dflt) ∨ (∃ k m, x = some (.int k ((m : Nat) : Int)) ∧ n = m ∧ m ≤ y) := by
  unfold bound at h
  split at h
  · cases h; exact .inl ⟨hx, rfl⟩
  · rename_i k i
    simp only [BV] at hx; obtain ⟨z, rfl, hz⟩ := hx
    simp only [VR] at hz; subst hz
    split at h
    · rename_i m
      cases hb : m.ble y <;> simp only [hb, cond_false, cond_true] at h
      · cases h
      · cases h; exact .inr ⟨k, n, rfl, rfl, Nat.le_of_ble_eq_true hb⟩
    · cases h
  · cases h

def qSlice (P : Program) (t : TypeId) (lo hi mx : Option AV) : AV → Option AV
  | .str s => match P.underlying t with
    | some .string => match mx with
      | none => match bound s.length s.length hi with
        | some h => match bound h 0 lo with
          | some l => some (.str ((s.drop l).take (h - l)))
          | none => none
        | none => none
      | some _ => none
    | _ => none
  | .slice b off len cap sl => match P.underlying t with
    | some (.slice e) => match szOf P e with
      | some n => match mx with
        | none => match bound cap len hi with
          | some h => match bound h 0 lo with
            | some l => bif (l.blt cap || !sl || (l * n).beq 0) && l.ble cap then some (.slice b (bif cap.beq l then off else off + l * n) (h - l) (cap - l) sl) else none
            | none => none
          | none => none
        | some m => match bound cap cap (some m) with
          | some m' => match hi with
            | some h0 => match bound m' 0 (some h0) with
              | some h => match bound h 0 lo with
                | some l => some (.slice b (bif m'.beq l then off else off + l * n) (h - l) (m' - l) false)
                | none => none
              | none => none
            | none => none
          | none => none
      | none => none
    | _ => none
  | .nilslice => match P.underlying t with
    | some (.slice e) => match szOf P e with
      | some _ => match mx with
        | none => match bound 0 0 hi with
          | some h => match bound h 0 lo with
            | some _ => some .nilslice
            | none => none
          | none => none
        | some m => match bound 0 0 (some m) with
          | some _ => match hi with
            | some h0 => match bound 0 0 (some h0) with
              | some _ => match bound 0 0 lo with
                | some _ => some .nilslice
                | none => none
              | none => none
            | none => none
          | none => none
      | none => none
    | _ => none
  | _ => none

theorem run_bounds2 {len cap h l : Nat} {hi lo : Option AV} {xh xl : Option Value} {isSlice : Bool} {y : Nat} (hy : y ≤ cap) (hh : bound y len hi = some h) (hl : bound h 0 lo = some l) (h1 : BV η hi xh) (h2 : BV η lo xl) :
    (Instr.sliceBounds isSlice len cap xl xh none).run P w = .ok (l, h, cap) w := by
  rcases bound_spec hh h1 with ⟨rfl, rfl⟩ | ⟨k, m, rfl, rfl, hm⟩ <;> rcases bound_spec hl h2 with ⟨rfl, rfl⟩ | ⟨k', m', rfl, rfl, hm'⟩
  · simp [Instr.sliceBounds]
  · simp [Instr.sliceBounds, run_sliceBound hm']
  · simp [Instr.sliceBounds, run_sliceBound (Nat.le_trans hm hy)]
  · simp [Instr.sliceBounds, run_sliceBound (Nat.le_trans hm hy), run_sliceBound hm']
theorem run_bounds3 {len cap m h l : Nat} {mx hi : AV} {xm xh : Value} {lo : Option AV} {xl : Option Value} {isSlice : Bool} {y d d' : Nat} (hy : y ≤ cap) (hm : bound y d (some mx) = some m) (hh : bound m d' (some hi) = some h) (hl : bound h 0 lo = some l)
    (h0 : VR η mx xm) (h1 : VR η hi xh) (h2 : BV η lo xl) :
    (Instr.sliceBounds isSlice len cap xl (some xh) (some xm)).run P w = .ok (l, h, m) w := by
  rcases bound_spec hm (show BV η (some mx) (some xm) from ⟨_, rfl, h0⟩) with ⟨e, _⟩ | ⟨k, m1, e1, rfl, hm1⟩
  · cases e
  rcases bound_spec hh (show BV η (some hi) (some xh) from ⟨_, rfl, h1⟩) with ⟨e, _⟩ | ⟨k', m2, e2, rfl, hm2⟩
  · cases e
  cases e1; cases e2
  rcases bound_spec hl h2 with ⟨rfl, rfl⟩ | ⟨k', m', rfl, rfl, hm'⟩
  · simp [Instr.sliceBounds, run_sliceBound (Nat.le_trans hm1 hy), run_sliceBound hm2]
  · simp [Instr.sliceBounds, run_sliceBound (Nat.le_trans hm1 hy), run_sliceBound hm2, run_sliceBound hm']

theorem run_qSlice {t : TypeId} {lo hi mx : Option AV} {xl xh xm : Option Value} {x v : AV} {vx : Value} (h : qSlice P t lo hi mx x = some v) (hx : VR η x vx) (h1 : BV η lo xl) (h2 : BV η hi xh) (h3 : BV η mx xm) :
    ∃ z, (Instr.sliceAt t vx xl xh xm).run P w = .ok z w ∧ VR η v z := by
  unfold qSlice at h
  split at h
  · rename_i s
    simp only [VR] at hx; subst hx
    split at h
    · rename_i hu
      split at h
      · simp only [BV] at h3; subst h3
        split at h
        · rename_i hh hhh
          split at h
          · rename_i l hl; cases h
            have hb := run_bounds2 (P := P) (w := w) (isSlice := false) (cap := (bytesOf s).size) (len := (bytesOf s).size) (by rw [size_bytesOf]; exact Nat.le_refl _) (by rw [size_bytesOf]; exact hhh) hl h2 h1
            refine ⟨.string ((bytesOf s).extract l hh), ?_, by simp only [VR]; rw [bytesOf_extract]⟩
            simp only [Instr.sliceAt, Instr.slice, Sem.run_bind, run_under hu, Result.andThen_ok, Option.isSome_none, Bool.false_eq_true, if_false, hb]
            rfl
          · cases h
        · cases h
      · cases h
    · cases h
  · rename_i b off len cap sl
    simp only [VR] at hx; obtain ⟨lc, hlc, rfl⟩ := hx
    split at h
    · rename_i e hu
      split at h
      · rename_i n hn
        split at h
        · simp only [BV] at h3; subst h3
          split at h
          · rename_i hh hhh
            split at h
            · rename_i l hl
              cases hc : ((l.blt cap || !sl || (l * n).beq 0) && l.ble cap) <;> simp only [hc, cond_false, cond_true] at h
              · cases h
              · cases h
                simp only [Bool.and_eq_true, Bool.or_eq_true, Bool.not_eq_true'] at hc
                obtain ⟨hc1, hc2⟩ := hc
                have hlc' : l ≤ cap := Nat.le_of_ble_eq_true hc2
                have hb := run_bounds2 (P := P) (w := w) (isSlice := true) (cap := if sl = true then cap + lc.sl else cap) (len := len) (by split <;> omega) hhh hl h2 h1
                refine ⟨_, by simp only [Instr.sliceAt, Instr.slice, Sem.run_bind, run_under hu, Result.andThen_ok, hb, run_size hn]; rfl, ?_⟩
                simp only [VR]
                refine ⟨lc, hlc, ?_⟩
                have hadd : ∀ k, Option.map (fun x : Addr => x.add k) (some ⟨lc.B, lc.sh + off, none⟩) = some ⟨lc.B, lc.sh + (off + k), none⟩ := fun k => by
                  simp only [Option.map_some, add_addr]; rw [show lc.sh + off + k = lc.sh + (off + k) by omega]
                cases sl with
                | false =>
                  simp only [Bool.false_eq_true, if_false]
                  by_cases he : cap = l
                  · subst he; simp
                  · have : cap.beq l = false := by
                      cases hq : cap.beq l
                      · rfl
                      · exact absurd (Nat.eq_of_beq_eq_true hq) he
                    rw [if_neg he, this, cond_false, hadd]
                | true =>
                  simp only [if_true]
                  by_cases he : cap = l
                  · subst he
                    have hz : cap * n = 0 := by
                      rcases hc1 with (hq | hq) | hq
                      · have := Nat.le_of_ble_eq_true hq; omega
                      · cases hq
                      · exact Nat.eq_of_beq_eq_true hq
                    simp only [Nat.beq_refl, cond_true, hz]
                    have : (⟨lc.B, lc.sh + off, none⟩ : Addr).add 0 = ⟨lc.B, lc.sh + off, none⟩ := rfl
                    simp only [Option.map_some, this, ite_self]
                    rw [show cap + lc.sl - cap = cap - cap + lc.sl by omega]
                  · have : cap.beq l = false := by
                      cases hq : cap.beq l
                      · rfl
                      · exact absurd (Nat.eq_of_beq_eq_true hq) he
                    rw [if_neg (by omega), this, cond_false, hadd, show cap + lc.sl - l = cap - l + lc.sl by omega]
            · cases h
          · cases h
        · rename_i m
          simp only [BV] at h3; obtain ⟨vm, rfl, hvm⟩ := h3
          split at h
          · rename_i m' hm'
            split at h
            · rename_i h0
              simp only [BV] at h2; obtain ⟨vh, rfl, hvh⟩ := h2
              split at h
              · rename_i hh hhh
                split at h
                · rename_i l hl
                  cases h
                  have hb := run_bounds3 (P := P) (w := w) (isSlice := true) (cap := if sl = true then cap + lc.sl else cap) (len := len) (by split <;> omega) hm' hhh hl hvm hvh h1
                  refine ⟨_, by simp only [Instr.sliceAt, Instr.slice, Sem.run_bind, run_under hu, Result.andThen_ok, hb, run_size hn]; rfl, ?_⟩
                  simp only [VR]
                  refine ⟨lc, hlc, ?_⟩
                  simp only [Bool.false_eq_true, if_false]
                  by_cases he : m' = l
                  · subst he; simp
                  · have : m'.beq l = false := by
                      cases hq : m'.beq l
                      · rfl
                      · exact absurd (Nat.eq_of_beq_eq_true hq) he
                    rw [if_neg he, this, cond_false]
                    simp only [Option.map_some, add_addr]
                    rw [show lc.sh + off + l * n = lc.sh + (off + l * n) by omega]
                · cases h
              · cases h
            · cases h
          · cases h
      · cases h
    · cases h
  · simp only [VR] at hx; subst hx
    split at h
    · rename_i e hu
      split at h
      · rename_i n hn
        split at h
        · simp only [BV] at h3; subst h3
          split at h
          · rename_i hh hhh
            split at h
            · rename_i l hl; cases h
              have hb := run_bounds2 (P := P) (w := w) (isSlice := true) (cap := 0) (len := 0) (Nat.le_refl _) hhh hl h2 h1
              have hh0 : hh = 0 := by rcases bound_spec hhh h2 with ⟨_, rfl⟩ | ⟨_, _, _, rfl, hm⟩ <;> omega
              subst hh0
              refine ⟨.slice none 0 0, ?_, by simp [VR]⟩
              simp only [Instr.sliceAt, Instr.slice, Sem.run_bind, run_under hu, Result.andThen_ok, hb, run_size hn]
              simp
            · cases h
          · cases h
        · rename_i m
          simp only [BV] at h3; obtain ⟨vm, rfl, hvm⟩ := h3
          split at h
          · rename_i m' hm'
            split at h
            · rename_i h0
              simp only [BV] at h2; obtain ⟨vh, rfl, hvh⟩ := h2
              split at h
              · rename_i hh hhh
                split at h
                · rename_i l hl
                  cases h
                  have hm0 : m' = 0 := by rcases bound_spec hm' (show BV η (some m) (some vm) from ⟨_, rfl, hvm⟩) with ⟨_, rfl⟩ | ⟨_, _, _, rfl, hm⟩ <;> omega
                  subst hm0
                  have hh0 : hh = 0 := by rcases bound_spec hhh (show BV η (some h0) (some vh) from ⟨_, rfl, hvh⟩) with ⟨_, rfl⟩ | ⟨_, _, _, rfl, hm⟩ <;> omega
                  subst hh0
                  have hb := run_bounds3 (P := P) (w := w) (isSlice := true) (cap := 0) (len := 0) (Nat.le_refl _) hm' hhh hl hvm hvh h1
                  refine ⟨.slice none 0 0, ?_, by simp [VR]⟩
                  simp only [Instr.sliceAt, Instr.slice, Sem.run_bind, run_under hu, Result.andThen_ok, hb, run_size hn]
                  simp
                · cases h
              · cases h
            · cases h
          · cases h
      · cases h
    · cases h
  · cases h

/-! ### Addresses, fields, indices -/
def qFieldAddr (P : Program) (s : TypeId) (f : Nat) : AV → Option AV
  | .ptr b off => match P.underlying s with
    | some (.struct fields) => match nth fields.toList f with
      | some fd => match szOf P fd.type with
        | some (_ + 1) => some (.ptr b (off + fd.offset))
        | _ => none
      | none => none
    | _ => none
  | _ => none
theorem run_qFieldAddr {s : TypeId} {f : Nat} {x v : AV} {vx : Value} (h : qFieldAddr P s f x = some v) (hx : VR η x vx) : ∃ z, (Instr.fieldAt s vx f).run P w = .ok z w ∧ VR η v z := by
  unfold qFieldAddr at h
  split at h
  · rename_i b off
    simp only [VR] at hx; obtain ⟨l, hl, rfl⟩ := hx
    split at h
    · rename_i fields hu
      split at h
      · rename_i fd hfd
        rw [nth_eq] at hfd
        have hfd' : fields[f]? = some fd := by simpa using hfd
        split at h
        · rename_i n hn; cases h
          refine ⟨.pointer (some ⟨l.B, l.sh + (off + fd.offset), none⟩), ?_, by simp only [VR]; exact ⟨l, hl, rfl⟩⟩
          simp only [Instr.fieldAt, Sem.run_bind, run_under hu, Result.andThen_ok, hfd', Instr.sureAddr, Sem.run_pure, fieldPlace, run_size hn]
          rw [if_neg (by omega)]
          simp only [Sem.run_pure, Result.andThen_ok, add_addr]
          rw [show l.sh + off + fd.offset = l.sh + (off + fd.offset) by omega]
        · cases h
      · cases h
    · cases h
  · cases h

def qField (P : Program) (t : TypeId) (f : Nat) : AV → Option AV
  | .agg cs => match P.underlying t with
    | some (.struct fields) => match nth fields.toList f with
      | some fd => partOf P fd.type cs fd.offset
      | none => none
    | _ => none
  | _ => none
theorem run_qField {t : TypeId} {f : Nat} {x v : AV} {vx : Value} (h : qField P t f x = some v) (hx : VR η x vx) : ∃ z, (Instr.field t vx f).run P w = .ok z w ∧ VR η v z := by
  unfold qField at h
  split at h
  · rename_i cs
    simp only [VR] at hx; obtain ⟨xs, rfl, hxs⟩ := hx
    split at h
    · rename_i fields hu
      split at h
      · rename_i fd hfd
        rw [nth_eq] at hfd
        have hfd' : fields[f]? = some fd := by simpa using hfd
        obtain ⟨z, h1, h2⟩ := run_partOf (w := w) h hxs
        exact ⟨z, by simp [Instr.field, run_under hu, hfd', asAgg, h1], h2⟩
      · cases h
    · cases h
  · cases h

def qIndexAddr (P : Program) (t : TypeId) (x i : AV) : Option AV := match i with
  | .int _ (.ofNat n) => match x with
    | .slice b off len _ _ => match P.underlying t with
      | some (.slice e) => match szOf P e with
        | some k => bif n.blt len then some (.ptr b (off + n * k)) else none
        | none => none
      | _ => none
    | .ptr b off => match P.underlying t with
      | some (.array len e) => match szOf P e with
        | some k => bif n.blt len then some (.ptr b (off + n * k)) else none
        | none => none
      | _ => none
    | _ => none
  | _ => none
theorem run_qIndexAddr {t : TypeId} {x i v : AV} {vx vi : Value} (h : qIndexAddr P t x i = some v) (hx : VR η x vx) (hi : VR η i vi) : ∃ z, (Instr.indexAt t vx vi).run P w = .ok z w ∧ VR η v z := by
  unfold qIndexAddr at h
  split at h
  · rename_i k n
    simp only [VR] at hi; subst hi
    split at h
    · rename_i b off len cap sl
      simp only [VR] at hx; obtain ⟨l, hl, rfl⟩ := hx
      split at h
      · rename_i e hu
        split at h
        · rename_i sz hn
          cases hb : n.blt len <;> simp only [hb, cond_false, cond_true] at h
          · cases h
          · cases h
            have hlt : n < len := Nat.le_of_ble_eq_true hb
            refine ⟨.pointer (some ⟨l.B, l.sh + (off + n * sz), none⟩), ?_, by simp only [VR]; exact ⟨l, hl, rfl⟩⟩
            have h0 : (0 : Int) ≤ (n : Int) ∧ (n : Int) < (len : Int) := ⟨by omega, by omega⟩
            simp only [Instr.indexAt, asIntOf, Sem.run_bind, Sem.run_pure, run_under hu, Result.andThen_ok, Int.ofNat_eq_natCast, if_pos h0, run_size hn, add_addr, Int.toNat_natCast]
            rw [show l.sh + off + n * sz = l.sh + (off + n * sz) by omega]
        · cases h
      · cases h
    · rename_i b off
      simp only [VR] at hx; obtain ⟨l, hl, rfl⟩ := hx
      split at h
      · rename_i len e hu
        split at h
        · rename_i sz hn
          cases hb : n.blt len <;> simp only [hb, cond_false, cond_true] at h
          · cases h
          · cases h
            have hlt : n < len := Nat.le_of_ble_eq_true hb
            refine ⟨.pointer (some ⟨l.B, l.sh + (off + n * sz), none⟩), ?_, by simp only [VR]; exact ⟨l, hl, rfl⟩⟩
            have h0 : (0 : Int) ≤ (n : Int) ∧ (n : Int) < (len : Int) := ⟨by omega, by omega⟩
            simp only [Instr.indexAt, asIntOf, Sem.run_bind, Sem.run_pure, run_under hu, Result.andThen_ok, Instr.sureAddr, Int.ofNat_eq_natCast, if_pos h0, run_size hn, add_addr, Int.toNat_natCast]
            rw [show l.sh + off + n * sz = l.sh + (off + n * sz) by omega]
        · cases h
      · cases h
    · cases h
  · cases h

def qIndex (P : Program) (t : TypeId) (x i : AV) : Option AV := match i with
  | .int _ (.ofNat n) => match x with
    | .str s => match P.underlying t with
      | some .string => match nth s n with
        | some b => some (.int .u8 (.ofNat (b % 256)))
        | none => none
      | _ => none
    | .agg cs => match P.underlying t with
      | some (.array len e) => match szOf P e with
        | some k => bif n.blt len then partOf P e cs (n * k) else none
        | none => none
      | _ => none
    | _ => none
  | _ => none
theorem run_qIndex {t : TypeId} {x i v : AV} {vx vi : Value} (h : qIndex P t x i = some v) (hx : VR η x vx) (hi : VR η i vi) : ∃ z, (Instr.index t vx vi).run P w = .ok z w ∧ VR η v z := by
  unfold qIndex at h
  split at h
  · rename_i k n
    simp only [VR] at hi; subst hi
    split at h
    · rename_i s
      simp only [VR] at hx; subst hx
      split at h
      · rename_i hu
        split at h
        · rename_i b hb; cases h
          rw [nth_eq] at hb
          have hlt : n < s.length := (List.getElem?_eq_some_iff.1 hb).1
          have hget : (bytesOf s)[n]? = some (UInt8.ofNat b) := by
            have h2 : (bytesOf s).data[n]? = some (UInt8.ofNat b) := by
              rw [← Array.getElem?_toList, data_bytesOf, List.getElem?_map, hb]; rfl
            rw [← h2]
            have hs : n < (bytesOf s).size := by rw [size_bytesOf]; exact hlt
            rw [getElem?_pos (bytesOf s) n hs]
            have : n < (bytesOf s).data.size := hs
            rw [getElem?_pos (bytesOf s).data n this]
            rfl
          refine ⟨.int .u8 ((UInt8.ofNat b).toNat), ?_, by simp [VR]⟩
          have h0 : (0 : Int) ≤ (n : Int) := by omega
          simp only [Instr.index, asIntOf, Sem.run_bind, Sem.run_pure, run_under hu, Result.andThen_ok, Int.ofNat_eq_natCast, if_pos h0, Int.toNat_natCast, hget]
        · cases h
      · cases h
    · rename_i cs
      simp only [VR] at hx; obtain ⟨xs, rfl, hxs⟩ := hx
      split at h
      · rename_i len e hu
        split at h
        · rename_i sz hn
          cases hb : n.blt len <;> simp only [hb, cond_false, cond_true] at h
          · cases h
          · have hlt : n < len := Nat.le_of_ble_eq_true hb
            have h0 : (0 : Int) ≤ (n : Int) ∧ (n : Int) < (len : Int) := ⟨by omega, by omega⟩
            obtain ⟨z, h1, h2⟩ := run_partOf (w := w) h hxs
            exact ⟨z, by simp only [Instr.index, asIntOf, Sem.run_bind, Sem.run_pure, run_under hu, Result.andThen_ok, Int.ofNat_eq_natCast, if_pos h0, run_size hn, Int.toNat_natCast, h1], h2⟩
        · cases h
      · cases h
    · cases h
  · cases h

/-- A look-up in an empty map, by a number. -/
def qLookup (P : Program) (H : T Blk) (t : TypeId) (ok : Bool) (x _ : AV) : Option AV := match x with
  | .map b => match H.get b with
    | some .emap => match P.underlying t with
      | some (.map k e) => match P.underlying k with
        | some (.int _) => match zeroOf P e with
          | some z => some (bif ok then .tuple [z, .bool false] else z)
          | none => none
        | _ => none
      | _ => none
    | _ => none
  | _ => none
theorem HR.qLookup (h : HR P W0 η H nx w) {t : TypeId} {ok : Bool} {x i v : AV} {vx vi : Value} (hq : Sim.qLookup P H t ok x i = some v) (hx : VR η x vx) :
    ∃ z, (Instr.lookup t vx vi ok).run P w = .ok z w ∧ VR η v z := by
  unfold Sim.qLookup at hq
  split at hq
  · rename_i b
    simp only [VR] at hx; obtain ⟨l, hl, rfl⟩ := hx
    split at hq
    · rename_i hb
      split at hq
      · rename_i k e hu
        split at hq
        · rename_i ik hk
          split at hq
          · rename_i z hz; cases hq
            obtain ⟨_, _, ck, hw⟩ := h.blk b _ l hb hl
            obtain ⟨zx, hzr, hzv⟩ := run_zero (w := w) (η := η) hz
            have hob : (getObj l.B).run P w = .ok (.map #[] ck) w := by simp [getObj, Sem.run, hw]
            have hck : ∀ d, (Instr.checkKey true (d + 1) k vi).run P w = .ok () w := fun d => by
              simp only [Instr.checkKey, Sem.run_bind, run_under hk, Result.andThen_ok]; rfl
            have hfk : (Instr.findKey k vi []).run P w = .ok none w := by
              simp [Instr.findKey, run_under hk, Instr.findNow]
            cases ok with
            | true =>
              refine ⟨.tuple #[zx, .bool false], ?_, by simp only [cond_true, VR, VRs]; exact ⟨_, rfl, _, _, rfl, hzv, _, _, rfl, rfl, rfl⟩⟩
              have := hck 9999
              simp only [Instr.lookup, Sem.run_bind, run_under hu, Result.andThen_ok, hob, Array.isEmpty_empty, Sem.run_pure, this, hfk, hzr]
              simp
            | false =>
              refine ⟨zx, ?_, by simpa only [cond_false] using hzv⟩
              have := hck 9999
              simp only [Instr.lookup, Sem.run_bind, run_under hu, Result.andThen_ok, hob, Array.isEmpty_empty, Sem.run_pure, this, hfk, hzr]
              simp
          · cases hq
        · cases hq
      · cases hq
    · cases hq
  · cases hq

def qAssert (P : Program) (asserted : TypeId) (ok : Bool) : AV → Option AV
  | .iface t v => match P.underlying asserted with
    | some (.interface _) => none
    | some _ => bif t.beq asserted then some (bif ok then .tuple [v, .bool true] else v) else bif ok then (match zeroOf P asserted with
        | some z => some (.tuple [z, .bool false])
        | none => none) else none
    | none => none
  | _ => none
theorem run_qAssert {xt asserted : TypeId} {ok : Bool} {x v : AV} {vx : Value} (h : qAssert P asserted ok x = some v) (hx : VR η x vx) :
    ∃ z, (Instr.typeAssert vx xt asserted ok).run P w = .ok z w ∧ VR η v z := by
  unfold qAssert at h
  split at h
  · rename_i t v'
    simp only [VR] at hx; obtain ⟨y, rfl, hy⟩ := hx
    split at h
    · cases h
    · rename_i d hd hu
      have key : ∀ r : Sem Value, (Instr.typeAssert (.iface t y) xt asserted ok) = (do
          match ← underlying asserted, (Value.iface t y) with
          | _, _ => r) → True := fun _ _ => trivial
      clear key
      cases ht : t.beq asserted <;> simp only [ht, cond_false, cond_true] at h
      · have hne : t ≠ asserted := fun e => by subst e; simp at ht
        cases ok <;> simp only [cond_false, cond_true] at h
        · cases h
        · split at h
          · rename_i z hz; cases h
            obtain ⟨zx, hzr, hzv⟩ := run_zero (w := w) (η := η) hz
            refine ⟨.tuple #[zx, .bool false], ?_, by simp only [VR, VRs]; exact ⟨_, rfl, _, _, rfl, hzv, _, _, rfl, rfl, rfl⟩⟩
            simp only [Instr.typeAssert, Sem.run_bind, run_under hu, Result.andThen_ok]
            cases d <;> first | exact absurd rfl (hd _) | (simp [hne, hzr])
          · cases h
      · have he : t = asserted := Nat.eq_of_beq_eq_true ht
        subst he
        cases h
        cases ok
        · refine ⟨y, ?_, by simpa only [cond_false] using hy⟩
          simp only [Instr.typeAssert, Sem.run_bind, run_under hu, Result.andThen_ok]
          cases d <;> first | exact absurd rfl (hd _) | simp
        · refine ⟨.tuple #[y, .bool true], ?_, by simp only [cond_true, VR, VRs]; exact ⟨_, rfl, _, _, rfl, hy, _, _, rfl, rfl, rfl⟩⟩
          simp only [Instr.typeAssert, Sem.run_bind, run_under hu, Result.andThen_ok]
          cases d <;> first | exact absurd rfl (hd _) | simp
    · cases h
  · cases h

def qExtract (i : Nat) : AV → Option AV
  | .tuple vs => nth vs i
  | _ => none
theorem run_qExtract {i : Nat} {x v : AV} {vx : Value} (h : qExtract i x = some v) (hx : VR η x vx) : ∃ z, (Instr.extract vx i).run P w = .ok z w ∧ VR η v z := by
  unfold qExtract at h
  split at h
  · rename_i vs
    simp only [VR] at hx; obtain ⟨xs, rfl, hxs⟩ := hx
    rw [nth_eq] at h
    obtain ⟨z, hz, hv⟩ := hxs.get i v h
    have : xs[i]? = some z := by simpa using hz
    exact ⟨z, by simp [Instr.extract, this], hv⟩
  · cases h

def qPlainIface (P : Program) (t : TypeId) (x : AV) : Option AV := match P.underlying t with
  | some (.interface _) => none
  | some _ => some (.iface t x)
  | none => none
theorem run_qPlainIface {t : TypeId} {x v : AV} {vx : Value} (h : qPlainIface P t x = some v) (hx : VR η x vx) : ∃ z, (Instr.makeInterface t vx).run P w = .ok z w ∧ VR η v z := by
  unfold qPlainIface at h
  split at h
  · cases h
  · rename_i d hd hu; cases h
    refine ⟨.iface t vx, ?_, by simp only [VR]; exact ⟨_, rfl, hx⟩⟩
    simp only [Instr.makeInterface, Sem.run_bind, run_under hu, Result.andThen_ok]
    cases d <;> first | exact absurd rfl (hd _) | rfl
  · cases h

/-! ### Quiet builtins -/
def qLen (P : Program) (t : TypeId) : AV → Option AV
  | .str s => match P.underlying t with | some .string => some (.int .i64 (.ofNat s.length)) | _ => none
  | .slice _ _ len _ _ => match P.underlying t with | some (.slice _) => some (.int .i64 (.ofNat len)) | _ => none
  | .nilslice => match P.underlying t with | some (.slice _) => some (.int .i64 (.ofNat 0)) | _ => none
  | .agg _ => match P.underlying t with | some (.array n _) => some (.int .i64 (.ofNat n)) | _ => none
  | _ => none
theorem run_qLen {t : TypeId} {ts : List TypeId} {rt : TypeId} {x v : AV} {vx : Value} {xs : List Value} (h : qLen P t x = some v) (hx : VR η x vx) :
    ∃ z, (Builtin.len_ (t :: ts).toArray rt (vx :: xs).toArray).run P w = .ok z w ∧ VR η v z := by
  unfold qLen at h
  split at h <;> (try simp only [VR] at hx)
  · rename_i s
    subst hx
    split at h
    · rename_i hu; cases h
      exact ⟨goInt (bytesOf s).size, by simp [Builtin.len_, run_under hu], by simp [VR, goInt, size_bytesOf]⟩
    · cases h
  · obtain ⟨l, hl, rfl⟩ := hx
    split at h
    · rename_i e hu; cases h
      exact ⟨goInt _, by simp [Builtin.len_, run_under hu]; rfl, by simp only [VR, goInt]; rfl⟩
    · cases h
  · subst hx
    split at h
    · rename_i e hu; cases h
      exact ⟨goInt 0, by simp [Builtin.len_, run_under hu], by simp only [VR, goInt]; rfl⟩
    · cases h
  · obtain ⟨l, rfl, _⟩ := hx
    split at h
    · rename_i n e hu; cases h
      exact ⟨goInt n, by simp [Builtin.len_, run_under hu], by simp only [VR, goInt]; rfl⟩
    · cases h
  · cases h
def qCap (P : Program) (t : TypeId) : AV → Option AV
  | .slice _ _ _ cap false => match P.underlying t with | some (.slice _) => some (.int .i64 (.ofNat cap)) | _ => none
  | .nilslice => match P.underlying t with | some (.slice _) => some (.int .i64 (.ofNat 0)) | _ => none
  | _ => none
theorem run_qCap {t : TypeId} {ts : List TypeId} {rt : TypeId} {x v : AV} {vx : Value} {xs : List Value} (h : qCap P t x = some v) (hx : VR η x vx) :
    ∃ z, (Builtin.cap_ (t :: ts).toArray rt (vx :: xs).toArray).run P w = .ok z w ∧ VR η v z := by
  unfold qCap at h
  split at h <;> (try simp only [VR] at hx)
  · obtain ⟨l, hl, rfl⟩ := hx
    split at h
    · rename_i e hu; cases h
      exact ⟨goInt _, by simp [Builtin.cap_, run_under hu]; rfl, by simp only [VR, goInt]; rfl⟩
    · cases h
  · subst hx
    split at h
    · rename_i e hu; cases h
      exact ⟨goInt 0, by simp [Builtin.cap_, run_under hu], by simp only [VR, goInt]; rfl⟩
    · cases h
  · cases h
def qMin : List AV → Option AV
  | [.int k x, .int _ y] => some (.int k (if y < x then y else x))
  | _ => none
theorem run_qMin {ts : Array TypeId} {rt : TypeId} {l : List AV} {v : AV} {xs : List Value} (h : qMin l = some v) (hx : VRs η l xs) :
    ∃ z, (Builtin.min_ ts rt xs.toArray).run P w = .ok z w ∧ VR η v z := by
  unfold qMin at h
  split at h
  · cases h
    simp only [VRs, VR] at hx
    obtain ⟨_, _, rfl, rfl, _, _, rfl, rfl, rfl⟩ := hx
    exact ⟨_, by simp [Builtin.min_, Builtin.min2]; rfl, by simp only [VR]⟩
  · cases h
def qSliceData : AV → Option AV
  | .slice b off _ (_ + 1) _ => some (.ptr b off)
  | .nilslice => some .nilptr
  | _ => none
theorem run_qSliceData {ts : Array TypeId} {rt : TypeId} {x v : AV} {vx : Value} (h : qSliceData x = some v) (hx : VR η x vx) :
    ∃ z, (Builtin.unsafeSliceData_ ts rt #[vx]).run P w = .ok z w ∧ VR η v z := by
  unfold qSliceData at h
  split at h <;> (try simp only [VR] at hx)
  · rename_i b off len c sl
    obtain ⟨l, hl, rfl⟩ := hx
    cases h
    refine ⟨.pointer (some ⟨l.B, l.sh + off, none⟩), ?_, by simp only [VR]; exact ⟨l, hl, rfl⟩⟩
    exact congrArg (fun s : Sem Value => s.run P w) (if_pos (show (if sl = true then c + 1 + l.sl else c + 1) ≠ 0 by split <;> omega))
  · subst hx; cases h
    exact ⟨.pointer none, rfl, by simp [VR]⟩
  · cases h

end
end
end Go.Proofs.YtepkidlndboakaaGreatDoor.Sim
