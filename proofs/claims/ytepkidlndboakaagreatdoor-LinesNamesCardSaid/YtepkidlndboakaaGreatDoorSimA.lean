/-
  SIM, PART A. Abstract values and the relation between them and the model's values; tries; lists of cells.
-/
import Derived.AtR
import Derived.Laws.World
import Derived.Laws.Sem
import Derived.Below
import Derived.KernelRfl
namespace Go.Proofs.YtepkidlndboakaaGreatDoor.Sim
open Go.RowKit (Below)
noncomputable section

/-- A string out of the numbers of its bytes. -/
def bytesOf (l : List Nat) : ByteArray := ⟨(l.map UInt8.ofNat).toArray⟩

/-- A value whose addresses are the numbers of abstract blocks. -/
inductive AV where
  | bool (b : Bool)
  | int (k : IntKind) (n : Int)
  | str (s : List Nat)
  | ptr (b off : Nat)
  | nilptr
  | slice (b off len cap : Nat) (sl : Bool)
  | nilslice
  | map (b : Nat)
  | nilmap
  | func (f : Nat) (first captured : List AV)
  | yield (l : Nat)
  | nilFunc
  | iface (t : Nat) (v : AV)
  | nilIface
  | agg (cs : List AV)
  | tuple (vs : List AV)
  deriving Inhabited

/-- Where an abstract block lies: block, shift, and by how many elements the slices over it have more room than is known. -/
structure Loc where
  B : Nat
  sh : Nat
  sl : Nat

abbrev Env := Nat → Option Loc

def Env.le (η η' : Env) : Prop := ∀ i l, η i = some l → η' i = some l
theorem Env.le_refl (η : Env) : η.le η := fun _ _ h => h
theorem Env.le_trans {a b c : Env} (h : a.le b) (k : b.le c) : a.le c := fun i l e => k i l (h i l e)

mutual
/-- An abstract value stands for a value. -/
def VR (η : Env) : AV → Value → Prop
  | .bool b, x => x = .bool b
  | .int k n, x => x = .int k n
  | .str s, x => x = .string (bytesOf s)
  | .ptr b off, x => ∃ l, η b = some l ∧ x = .pointer (some ⟨l.B, l.sh + off, none⟩)
  | .nilptr, x => x = .pointer none
  | .slice b off len cap sl, x => ∃ l, η b = some l ∧ x = .slice (some ⟨l.B, l.sh + off, none⟩) len (if sl then cap + l.sl else cap)
  | .nilslice, x => x = .slice none 0 0
  | .map b, x => ∃ l, η b = some l ∧ x = .map (some l.B)
  | .nilmap, x => x = .map none
  | .func f first captured, x => ∃ fs cs, x = .func (.func f) fs cs ∧ VRs η first fs.toList ∧ VRs η captured cs.toList
  | .yield l, x => ∃ m, η l = some m ∧ x = .func (.yield m.B) #[] #[]
  | .nilFunc, x => x = .nilFunc
  | .iface t v, x => ∃ y, x = .iface t y ∧ VR η v y
  | .nilIface, x => x = .nilIface
  | .agg cs, x => ∃ xs, x = .agg xs ∧ VRs η cs xs.toList
  | .tuple vs, x => ∃ xs, x = .tuple xs ∧ VRs η vs xs.toList
def VRs (η : Env) : List AV → List Value → Prop
  | [], xs => xs = []
  | v :: vs, xs => ∃ x xs', xs = x :: xs' ∧ VR η v x ∧ VRs η vs xs'
end

mutual
theorem VR.mono {η η' : Env} (h : η.le η') : ∀ (v : AV) (x : Value), VR η v x → VR η' v x
  | .bool _, _, hx | .int _ _, _, hx | .str _, _, hx | .nilptr, _, hx | .nilslice, _, hx | .nilmap, _, hx | .nilFunc, _, hx | .nilIface, _, hx => by
    simpa [VR] using hx
  | .ptr _ _, _, hx => by simp only [VR] at hx ⊢; obtain ⟨l, hl, rfl⟩ := hx; exact ⟨l, h _ _ hl, rfl⟩
  | .slice _ _ _ _ _, _, hx => by simp only [VR] at hx ⊢; obtain ⟨l, hl, rfl⟩ := hx; exact ⟨l, h _ _ hl, rfl⟩
  | .map _, _, hx => by simp only [VR] at hx ⊢; obtain ⟨l, hl, rfl⟩ := hx; exact ⟨l, h _ _ hl, rfl⟩
  | .yield _, _, hx => by simp only [VR] at hx ⊢; obtain ⟨l, hl, rfl⟩ := hx; exact ⟨l, h _ _ hl, rfl⟩
  | .func _ first captured, _, hx => by
    simp only [VR] at hx ⊢
    obtain ⟨fs, cs, rfl, h1, h2⟩ := hx
    exact ⟨fs, cs, rfl, VRs.mono h first _ h1, VRs.mono h captured _ h2⟩
  | .iface _ v, _, hx => by simp only [VR] at hx ⊢; obtain ⟨y, rfl, hy⟩ := hx; exact ⟨y, rfl, VR.mono h v _ hy⟩
  | .agg cs, _, hx => by simp only [VR] at hx ⊢; obtain ⟨xs, rfl, hy⟩ := hx; exact ⟨xs, rfl, VRs.mono h cs _ hy⟩
  | .tuple cs, _, hx => by simp only [VR] at hx ⊢; obtain ⟨xs, rfl, hy⟩ := hx; exact ⟨xs, rfl, VRs.mono h cs _ hy⟩
theorem VRs.mono {η η' : Env} (h : η.le η') : ∀ (vs : List AV) (xs : List Value), VRs η vs xs → VRs η' vs xs
  | [], _, hx => by simpa [VRs] using hx
  | v :: vs, _, hx => by
    simp only [VRs] at hx ⊢
    obtain ⟨x, xs', rfl, h1, h2⟩ := hx
    exact ⟨x, xs', rfl, VR.mono h v _ h1, VRs.mono h vs _ h2⟩
end

theorem VRs.length {η : Env} : ∀ {vs : List AV} {xs : List Value}, VRs η vs xs → xs.length = vs.length
  | [], _, h => by simp only [VRs] at h; subst h; rfl
  | _ :: _, _, h => by simp only [VRs] at h; obtain ⟨x, xs', rfl, _, h2⟩ := h; simp [VRs.length h2]

/-- A list's element by its number. -/
def nth {α : Type} : List α → Nat → Option α
  | [], _ => none
  | x :: _, 0 => some x
  | _ :: l, i + 1 => nth l i
theorem nth_eq {α : Type} : ∀ (l : List α) (i : Nat), nth l i = l[i]?
  | [], _ => by simp [nth]
  | _ :: _, 0 => by simp [nth]
  | _ :: l, i + 1 => by simp [nth, nth_eq l i]

theorem VRs.get {η : Env} : ∀ {vs : List AV} {xs : List Value}, VRs η vs xs → ∀ (i : Nat) (v : AV), vs[i]? = some v → ∃ x, xs[i]? = some x ∧ VR η v x
  | [], _, _, i, v, hi => by simp at hi
  | _ :: _, _, h, 0, v, hi => by simp only [VRs] at h; obtain ⟨x, xs', rfl, h1, _⟩ := h; simp at hi; subst hi; exact ⟨x, by simp, h1⟩
  | _ :: _, _, h, i + 1, v, hi => by
    simp only [VRs] at h; obtain ⟨x, xs', rfl, _, h2⟩ := h
    obtain ⟨y, hy, hv⟩ := VRs.get h2 i v (by simpa using hi)
    exact ⟨y, by simpa using hy, hv⟩

theorem VRs.append {η : Env} : ∀ {vs us : List AV} {xs ys : List Value}, VRs η vs xs → VRs η us ys → VRs η (vs ++ us) (xs ++ ys)
  | [], _, _, _, h, k => by simp only [VRs] at h; subst h; simpa using k
  | _ :: _, _, _, _, h, k => by
    simp only [VRs] at h; obtain ⟨x, xs', rfl, h1, h2⟩ := h
    exact (by simp only [List.cons_append, VRs]; exact ⟨x, _, rfl, h1, h2.append k⟩)

theorem VRs.of_get {η : Env} : ∀ {vs : List AV} {xs : List Value}, xs.length = vs.length → (∀ (i : Nat) (v : AV) (x : Value), vs[i]? = some v → xs[i]? = some x → VR η v x) → VRs η vs xs
  | [], [], _, _ => by simp [VRs]
  | [], _ :: _, h, _ => by simp at h
  | _ :: _, [], h, _ => by simp at h
  | v :: vs, x :: xs, h, k => by
    simp only [VRs]
    exact ⟨x, xs, rfl, k 0 v x (by simp) (by simp), VRs.of_get (by simpa using h) fun i u y hu hy => k (i + 1) u y (by simpa using hu) (by simpa using hy)⟩

theorem VRs.map_const {η : Env} {α : Type} (f : α → AV) (g : α → Value) (h : ∀ a, VR η (f a) (g a)) : ∀ l : List α, VRs η (l.map f) (l.map g)
  | [] => by simp [VRs]
  | a :: l => by simp only [List.map_cons, VRs]; exact ⟨_, _, rfl, h a, VRs.map_const f g h l⟩

theorem VRs.take {η : Env} {vs : List AV} {xs : List Value} (h : VRs η vs xs) (n : Nat) : VRs η (vs.take n) (xs.take n) := by
  refine VRs.of_get (by simp [h.length]) fun i v x hv hx => ?_
  simp only [List.getElem?_take] at hv hx
  split at hv <;> simp_all
  obtain ⟨y, hy, hv'⟩ := h.get i v hv
  rw [hx] at hy; cases hy; exact hv'

theorem VRs.drop {η : Env} {vs : List AV} {xs : List Value} (h : VRs η vs xs) (n : Nat) : VRs η (vs.drop n) (xs.drop n) := by
  refine VRs.of_get (by simp [h.length]) fun i v x hv hx => ?_
  simp only [List.getElem?_drop] at hv hx
  obtain ⟨y, hy, hv'⟩ := h.get _ v hv
  rw [hx] at hy; cases hy; exact hv'

/-- Is it the value of one cell? -/
def AV.one : AV → Bool
  | .agg _ | .tuple _ => false
  | _ => true
theorem VR.one {η : Env} {v : AV} {x : Value} (h : VR η v x) (hv : v.one = true) : x.oneCell' = true := by
  cases v <;> simp only [VR] at h <;> (try simp [AV.one] at hv) <;>
    first
      | (subst h; rfl)
      | (obtain ⟨_, _, rfl⟩ := h; rfl)
      | (obtain ⟨_, rfl, _⟩ := h; rfl)
      | (obtain ⟨_, _, rfl, _⟩ := h; rfl)

/-- A value's cells. -/
def AV.cells : AV → List AV
  | .agg cs => cs
  | v => [v]
theorem VR.cells {η : Env} {v : AV} {x : Value} (h : VR η v x) : VRs η v.cells x.cells.toList := by
  cases v <;> simp only [AV.cells] <;> (try (simp only [VRs]; refine ⟨x, [], ?_, h, rfl⟩)) <;> simp only [VR] at h <;>
    first
      | (subst h; rfl)
      | (obtain ⟨_, _, rfl⟩ := h; rfl)
      | (obtain ⟨xs, rfl, h⟩ := h; exact h)
      | (obtain ⟨_, rfl, _⟩ := h; rfl)
      | (obtain ⟨_, _, rfl, _⟩ := h; rfl)

/-! ### Values without addresses, read off the program -/
def ofCell : Value → Option AV
  | .bool b => some (.bool b)
  | .int k n => some (.int k n)
  | .string s => some (.str (s.data.toList.map UInt8.toNat))
  | .pointer none => some .nilptr
  | .slice none 0 0 => some .nilslice
  | .map none => some .nilmap
  | .nilFunc => some .nilFunc
  | .nilIface => some .nilIface
  | _ => none
def ofCells : List Value → Option (List AV)
  | [] => some []
  | x :: xs => match ofCell x with
    | some v => match ofCells xs with
      | some vs => some (v :: vs)
      | none => none
    | none => none
def ofV : Value → Option AV
  | .agg cs => match ofCells cs.toList with
    | some l => some (.agg l)
    | none => none
  | x => ofCell x

theorem bytesOf_toNat (s : ByteArray) : bytesOf (s.data.toList.map UInt8.toNat) = s := by
  unfold bytesOf
  simp [List.map_map, Function.comp_def]
theorem ofCell_VR {η : Env} {x : Value} {v : AV} (h : ofCell x = some v) : VR η v x := by
  unfold ofCell at h
  split at h <;> (try cases h) <;> simp [VR, bytesOf_toNat]
theorem ofCells_VRs {η : Env} : ∀ {xs : List Value} {vs : List AV}, ofCells xs = some vs → VRs η vs xs
  | [], vs, h => by simp [ofCells] at h; subst h; simp [VRs]
  | x :: xs, vs, h => by
    simp only [ofCells] at h
    split at h
    · rename_i v hv
      split at h
      · rename_i us hus
        cases h
        simp only [VRs]; exact ⟨x, xs, rfl, ofCell_VR hv, ofCells_VRs hus⟩
      · cases h
    · cases h
theorem ofV_VR {η : Env} {x : Value} {v : AV} (h : ofV x = some v) : VR η v x := by
  unfold ofV at h
  split at h
  · split at h
    · rename_i l hl; cases h; simp only [VR]; exact ⟨_, rfl, ofCells_VRs hl⟩
    · cases h
  · exact ofCell_VR h

/-! ### Tries -/
inductive T (α : Type) where
  | e
  | n (l : T α) (v : Option α) (r : T α)
/- natively: -/
def T.getC {α : Type} : T α → Nat → Option α
  | .e, _ => none
  | .n l v r, i => bif i.beq 0 then v else bif (i % 2).beq 1 then l.getC (i / 2) else r.getC (i / 2)
def T.loneC {α : Type} (x : α) : Nat → Nat → T α
  | 0, _ => .e
  | f + 1, i => bif i.beq 0 then .n .e (some x) .e else bif (i % 2).beq 1 then .n (T.loneC x f (i / 2)) none .e else .n .e none (T.loneC x f (i / 2))
def T.setC {α : Type} (x : α) : T α → Nat → T α
  | .e, i => T.loneC x 24 i
  | .n l v r, i => bif i.beq 0 then .n l (some x) r else bif (i % 2).beq 1 then .n (l.setC x (i / 2)) v r else .n l v (r.setC x (i / 2))
/- by the recursor, for the kernel's sake: -/
def T.get {α : Type} (t : T α) : Nat → Option α := T.rec (motive := fun _ => Nat → Option α) (fun _ => none)
  (fun _ v _ ihl ihr i => Bool.rec (motive := fun _ => Option α) (Bool.rec (motive := fun _ => Option α) (ihr (Nat.div i 2)) (ihl (Nat.div i 2)) (Nat.beq (Nat.mod i 2) 1)) v (Nat.beq i 0)) t
def T.lone {α : Type} (x : α) (f : Nat) : Nat → T α := Nat.rec (motive := fun _ => Nat → T α) (fun _ => .e)
  (fun _ ih i => Bool.rec (motive := fun _ => T α) (Bool.rec (motive := fun _ => T α) (.n .e none (ih (Nat.div i 2))) (.n (ih (Nat.div i 2)) none .e) (Nat.beq (Nat.mod i 2) 1)) (.n .e (some x) .e) (Nat.beq i 0)) f
def T.set {α : Type} (x : α) (t : T α) : Nat → T α := T.rec (motive := fun _ => Nat → T α) (fun i => T.lone x 24 i)
  (fun l v r ihl ihr i => Bool.rec (motive := fun _ => T α) (Bool.rec (motive := fun _ => T α) (.n l v (ihr (Nat.div i 2))) (.n (ihl (Nat.div i 2)) v r) (Nat.beq (Nat.mod i 2) 1)) (.n l (some x) r) (Nat.beq i 0)) t
theorem rec_cond {α : Type} (a b : α) (c : Bool) : Bool.rec (motive := fun _ => α) a b c = bif c then b else a := by cases c <;> rfl
theorem T.get_e {α : Type} (i : Nat) : (T.e : T α).get i = none := rfl
theorem T.get_n {α : Type} (l : T α) (v : Option α) (r : T α) (i : Nat) : (T.n l v r).get i = bif i.beq 0 then v else bif (i % 2).beq 1 then l.get (i / 2) else r.get (i / 2) := by
  rw [← rec_cond, ← rec_cond]; rfl
theorem T.lone_zero {α : Type} (x : α) (i : Nat) : T.lone x 0 i = .e := rfl
theorem T.lone_succ {α : Type} (x : α) (f i : Nat) : T.lone x (f + 1) i = bif i.beq 0 then .n .e (some x) .e else bif (i % 2).beq 1 then .n (T.lone x f (i / 2)) none .e else .n .e none (T.lone x f (i / 2)) := by
  rw [← rec_cond, ← rec_cond]; rfl
theorem T.set_e {α : Type} (x : α) (i : Nat) : T.set x .e i = T.lone x 24 i := rfl
theorem T.set_n {α : Type} (x : α) (l : T α) (v : Option α) (r : T α) (i : Nat) : T.set x (.n l v r) i = bif i.beq 0 then .n l (some x) r else bif (i % 2).beq 1 then .n (l.set x (i / 2)) v r else .n l v (r.set x (i / 2)) := by
  rw [← rec_cond, ← rec_cond]; rfl
theorem half_eq {i j : Nat} (hm : i % 2 = j % 2) (hd : i / 2 = j / 2) : i = j := by omega
theorem odd_of {i : Nat} (h : (i % 2).beq 1 = true) : i % 2 = 1 := Nat.eq_of_beq_eq_true h
theorem even_of {i : Nat} (h : (i % 2).beq 1 = false) : i % 2 = 0 := by
  have : i % 2 ≠ 1 := fun e => by rw [e] at h; simp at h
  omega
theorem T.get_lone {α : Type} {x y : α} : ∀ {f i j : Nat}, (T.lone x f i).get j = some y → j = i ∧ y = x
  | 0, i, j, h => by rw [T.lone_zero, T.get_e] at h; cases h
  | f + 1, i, j, h => by
    rw [T.lone_succ] at h
    cases h0 : i.beq 0 <;> simp only [h0, cond_false, cond_true] at h
    · cases h1 : (i % 2).beq 1 <;> simp only [h1, cond_false, cond_true, T.get_n, T.get_e] at h <;>
        cases hj0 : j.beq 0 <;> simp only [hj0, cond_false, cond_true] at h <;> (try cases h) <;>
        cases hj1 : (j % 2).beq 1 <;> simp only [hj1, cond_false, cond_true] at h <;> (try (simp [] at h; done))
      · obtain ⟨hd, rfl⟩ := T.get_lone h
        exact ⟨(half_eq (by rw [even_of h1, even_of hj1]) hd.symm).symm, rfl⟩
      · obtain ⟨hd, rfl⟩ := T.get_lone h
        exact ⟨(half_eq (by rw [odd_of h1, odd_of hj1]) hd.symm).symm, rfl⟩
    · have hi : i = 0 := Nat.eq_of_beq_eq_true h0
      simp only [T.get_n, T.get_e] at h
      cases hj0 : j.beq 0 <;> simp only [hj0, cond_false, cond_true] at h
      · cases hj1 : (j % 2).beq 1 <;> simp only [hj1, cond_false, cond_true] at h <;> simp [] at h
      · cases h; exact ⟨(Nat.eq_of_beq_eq_true hj0).trans hi.symm, rfl⟩
theorem T.get_set {α : Type} {x y : α} : ∀ {t : T α} {i j : Nat}, (t.set x i).get j = some y → (j = i ∧ y = x) ∨ (j ≠ i ∧ t.get j = some y)
  | .e, i, j, h => by rw [T.set_e] at h; exact .inl (T.get_lone h)
  | .n l v r, i, j, h => by
    rw [T.set_n] at h
    cases h0 : i.beq 0 <;> simp only [h0, cond_false, cond_true] at h
    · have hi : i ≠ 0 := fun e => by subst e; simp at h0
      cases hj0 : j.beq 0
      · cases h1 : (i % 2).beq 1 <;> cases hj1 : (j % 2).beq 1 <;>
          simp only [h1, hj1, hj0, cond_false, cond_true, T.get_n] at h ⊢
        · rcases T.get_set h with ⟨hd, rfl⟩ | ⟨hd, hg⟩
          · exact .inl ⟨(half_eq (by rw [even_of h1, even_of hj1]) hd.symm).symm, rfl⟩
          · exact .inr ⟨fun e => hd (by rw [e]), hg⟩
        · refine .inr ⟨fun e => ?_, h⟩
          subst e; rw [h1] at hj1; cases hj1
        · refine .inr ⟨fun e => ?_, h⟩
          subst e; rw [h1] at hj1; cases hj1
        · rcases T.get_set h with ⟨hd, rfl⟩ | ⟨hd, hg⟩
          · exact .inl ⟨(half_eq (by rw [odd_of h1, odd_of hj1]) hd.symm).symm, rfl⟩
          · exact .inr ⟨fun e => hd (by rw [e]), hg⟩
      · have hj : j = 0 := Nat.eq_of_beq_eq_true hj0
        refine .inr ⟨fun e => hi (e ▸ hj), ?_⟩
        cases h1 : (i % 2).beq 1 <;> simp only [h1, hj0, cond_false, cond_true, T.get_n] at h ⊢ <;> exact h
    · have hi : i = 0 := Nat.eq_of_beq_eq_true h0
      cases hj0 : j.beq 0 <;> simp only [T.get, hj0] at h ⊢
      · exact .inr ⟨fun e => by subst e; simp [h0] at hj0, h⟩
      · cases h; exact .inl ⟨(Nat.eq_of_beq_eq_true hj0).trans hi.symm, rfl⟩

theorem T.get_lone_ne {α : Type} {x : α} {f i j : Nat} (h : j ≠ i) : (T.lone x f i).get j = none := by
  cases e : (T.lone x f i).get j with
  | none => rfl
  | some y => exact absurd (T.get_lone e).1 h
theorem T.get_set_ne {α : Type} {x : α} : ∀ {t : T α} {i j : Nat}, j ≠ i → (t.set x i).get j = t.get j
  | .e, i, j, h => by rw [T.set_e, T.get_lone_ne h, T.get_e]
  | .n l v r, i, j, h => by
    rw [T.set_n]
    cases h0 : i.beq 0 <;> simp only [cond_false, cond_true]
    · cases h1 : (i % 2).beq 1 <;> simp only [cond_false, cond_true, T.get_n] <;> cases hj0 : j.beq 0 <;> simp only [cond_false, cond_true] <;>
        cases hj1 : (j % 2).beq 1 <;> simp only [cond_false, cond_true]
      · exact T.get_set_ne fun e => h (half_eq (by rw [even_of h1, even_of hj1]) e)
      · exact T.get_set_ne fun e => h (half_eq (by rw [odd_of h1, odd_of hj1]) e)
    · have hi : i = 0 := Nat.eq_of_beq_eq_true h0
      cases hj0 : j.beq 0 <;> simp only [T.get_n, hj0, cond_false, cond_true]
      exact absurd ((Nat.eq_of_beq_eq_true hj0).trans hi.symm) h
theorem T.get_lone_same {α : Type} {x : α} : ∀ {f i : Nat}, i < 2 ^ f → (T.lone x (f + 1) i).get i = some x
  | 0, i, h => by
    have : i = 0 := by simp at h; exact h
    subst this; rfl
  | f + 1, i, h => by
    rw [T.lone_succ]
    cases h0 : i.beq 0 <;> simp only [cond_false, cond_true]
    · have hh : i / 2 < 2 ^ f := by rw [Nat.pow_succ] at h; omega
      cases h1 : (i % 2).beq 1 <;> simp only [cond_false, cond_true, T.get_n, h0, h1] <;> exact T.get_lone_same hh
    · simp only [T.get_n, h0, cond_true]
theorem T.get_set_same {α : Type} {x : α} : ∀ {t : T α} {i : Nat}, i < 8388608 → (t.set x i).get i = some x
  | .e, i, h => by rw [T.set_e]; exact T.get_lone_same (f := 23) (by simpa using h)
  | .n l v r, i, h => by
    rw [T.set_n]
    cases h0 : i.beq 0 <;> simp only [cond_false, cond_true]
    · cases h1 : (i % 2).beq 1 <;> simp only [cond_false, cond_true, T.get_n, h0, h1] <;> exact T.get_set_same (by omega)
    · simp only [T.get_n, h0, cond_true]

end
end Go.Proofs.YtepkidlndboakaaGreatDoor.Sim
