/-
  SIM, PART Q. The quiet operations again, in a form that the kernel walks fast; both forms answer alike.
-/
import Derived.Test.YtepkidlndboakaaGreatDoorSimI
namespace Go.Proofs.YtepkidlndboakaaGreatDoor.Sim
open Go.RowKit (Below)
noncomputable section

/-! ### Eliminators -/
def bnd {α β : Type} (o : Option α) (f : α → Option β) : Option β := Option.casesOn (motive := fun _ => Option β) o none f
theorem bnd_some {α β : Type} {o : Option α} {f : α → Option β} {r : β} : bnd o f = some r ↔ ∃ x, o = some x ∧ f x = some r := by
  cases o with
  | none => exact ⟨fun h => (nomatch h), fun ⟨_, h, _⟩ => (nomatch h)⟩
  | some x => exact ⟨fun h => ⟨x, rfl, h⟩, fun ⟨_, h, k⟩ => (by cases h; exact k)⟩
def onPtr {β : Type} (v : AV) (f : Nat → Nat → Option β) : Option β := AV.casesOn (motive_1 := fun _ => Option β) v
  (fun _ => none) (fun _ _ => none) (fun _ => none) f none (fun _ _ _ _ _ => none) none (fun _ => none) none (fun _ _ _ => none) (fun _ => none) none (fun _ _ => none) none (fun _ => none) (fun _ => none)
theorem onPtr_some {β : Type} {v : AV} {f : Nat → Nat → Option β} {r : β} : onPtr v f = some r ↔ ∃ b o, v = .ptr b o ∧ f b o = some r := by
  cases v <;> first | exact ⟨fun h => (nomatch (show none = some r from h)), fun ⟨_, _, h, _⟩ => (nomatch h)⟩ | exact ⟨fun h => ⟨_, _, rfl, h⟩, fun ⟨_, _, h, k⟩ => (by cases h; exact k)⟩
def onInt {β : Type} (v : AV) (f : IntKind → Int → Option β) : Option β := AV.casesOn (motive_1 := fun _ => Option β) v
  (fun _ => none) f (fun _ => none) (fun _ _ => none) none (fun _ _ _ _ _ => none) none (fun _ => none) none (fun _ _ _ => none) (fun _ => none) none (fun _ _ => none) none (fun _ => none) (fun _ => none)
theorem onInt_some {β : Type} {v : AV} {f : IntKind → Int → Option β} {r : β} : onInt v f = some r ↔ ∃ k n, v = .int k n ∧ f k n = some r := by
  cases v <;> first | exact ⟨fun h => (nomatch (show none = some r from h)), fun ⟨_, _, h, _⟩ => (nomatch h)⟩ | exact ⟨fun h => ⟨_, _, rfl, h⟩, fun ⟨_, _, h, k⟩ => (by cases h; exact k)⟩
def onBool {β : Type} (v : AV) (f : Bool → Option β) : Option β := AV.casesOn (motive_1 := fun _ => Option β) v
  f (fun _ _ => none) (fun _ => none) (fun _ _ => none) none (fun _ _ _ _ _ => none) none (fun _ => none) none (fun _ _ _ => none) (fun _ => none) none (fun _ _ => none) none (fun _ => none) (fun _ => none)
theorem onBool_some {β : Type} {v : AV} {f : Bool → Option β} {r : β} : onBool v f = some r ↔ ∃ b, v = .bool b ∧ f b = some r := by
  cases v <;> first | exact ⟨fun h => (nomatch (show none = some r from h)), fun ⟨_, h, _⟩ => (nomatch h)⟩ | exact ⟨fun h => ⟨_, rfl, h⟩, fun ⟨_, h, k⟩ => (by cases h; exact k)⟩
def onTuple {β : Type} (v : AV) (f : List AV → Option β) : Option β := AV.casesOn (motive_1 := fun _ => Option β) v
  (fun _ => none) (fun _ _ => none) (fun _ => none) (fun _ _ => none) none (fun _ _ _ _ _ => none) none (fun _ => none) none (fun _ _ _ => none) (fun _ => none) none (fun _ _ => none) none (fun _ => none) f
theorem onTuple_some {β : Type} {v : AV} {f : List AV → Option β} {r : β} : onTuple v f = some r ↔ ∃ b, v = .tuple b ∧ f b = some r := by
  cases v <;> first | exact ⟨fun h => (nomatch (show none = some r from h)), fun ⟨_, h, _⟩ => (nomatch h)⟩ | exact ⟨fun h => ⟨_, rfl, h⟩, fun ⟨_, h, k⟩ => (by cases h; exact k)⟩
def onCells {β : Type} (v : Blk) (f : List (Option AV) → TypeId → Bool → Bool → Option β) : Option β := Blk.casesOn (motive := fun _ => Option β) v
  f none none (fun _ _ => none) none (fun _ => none)
theorem onCells_some {β : Type} {v : Blk} {f : List (Option AV) → TypeId → Bool → Bool → Option β} {r : β} : onCells v f = some r ↔ ∃ vs e ro ex, v = .cells vs e ro ex ∧ f vs e ro ex = some r := by
  cases v <;> first | exact ⟨fun h => (nomatch (show none = some r from h)), fun ⟨_, _, _, _, h, _⟩ => (nomatch h)⟩ | exact ⟨fun h => ⟨_, _, _, _, rfl, h⟩, fun ⟨_, _, _, _, h, k⟩ => (by cases h; exact k)⟩
def AV.cellsF (v : AV) : List AV := AV.casesOn (motive_1 := fun _ => List AV) v
  (fun _ => [v]) (fun _ _ => [v]) (fun _ => [v]) (fun _ _ => [v]) [v] (fun _ _ _ _ _ => [v]) [v] (fun _ => [v]) [v] (fun _ _ _ => [v]) (fun _ => [v]) [v] (fun _ _ => [v]) [v] (fun cs => cs) (fun _ => [v])
theorem AV.cellsF_eq (v : AV) : v.cellsF = v.cells := by cases v <;> rfl
def AV.oneF (v : AV) : Bool := AV.casesOn (motive_1 := fun _ => Bool) v
  (fun _ => true) (fun _ _ => true) (fun _ => true) (fun _ _ => true) true (fun _ _ _ _ _ => true) true (fun _ => true) true (fun _ _ _ => true) (fun _ => true) true (fun _ _ => true) true (fun _ => false) (fun _ => false)
theorem AV.oneF_eq (v : AV) : v.oneF = v.one := by cases v <;> rfl

/-! ### Lists -/
def takeNC : Nat → List (Option AV) → Option (List AV)
  | 0, _ => some []
  | n + 1, some v :: l => match takeNC n l with
    | some r => some (v :: r)
    | none => none
  | _ + 1, _ => none
def takeNF (n : Nat) : List (Option AV) → Option (List AV) := Nat.rec (motive := fun _ => List (Option AV) → Option (List AV)) (fun _ => some [])
  (fun _ ih l => List.casesOn (motive := fun _ => Option (List AV)) l none fun x l' => Option.casesOn (motive := fun _ => Option (List AV)) x none fun v => bnd (ih l') fun r => some (v :: r)) n
theorem takeNF_eq : ∀ (n : Nat) (l : List (Option AV)), takeNF n l = takeN l n
  | 0, l => by cases l <;> rfl
  | n + 1, [] => rfl
  | n + 1, none :: l => rfl
  | n + 1, some v :: l => by
    show bnd (takeNF n l) (fun r => some (v :: r)) = _
    rw [takeNF_eq n l, takeN]
    cases takeN l n <;> rfl
def dropC {α : Type} : Nat → List α → List α
  | 0, l => l
  | _ + 1, [] => []
  | n + 1, _ :: l => dropC n l
def dropF {α : Type} (n : Nat) : List α → List α := Nat.rec (motive := fun _ => List α → List α) (fun l => l)
  (fun _ ih l => List.casesOn (motive := fun _ => List α) l [] fun _ l' => ih l') n
theorem dropF_eq {α : Type} : ∀ (n : Nat) (l : List α), dropF n l = l.drop n
  | 0, l => by simp; rfl
  | n + 1, [] => by simp; rfl
  | n + 1, x :: l => by
    show dropF n l = _
    rw [dropF_eq n l]; rfl
def nthF {α : Type} (i : Nat) (l : List α) : Option α := List.casesOn (motive := fun _ => Option α) (dropF i l) none fun x _ => some x
theorem nthF_eq {α : Type} (i : Nat) (l : List α) : nthF i l = nth l i := by
  rw [nth_eq, nthF, dropF_eq, ← List.head?_drop]
  cases l.drop i <;> rfl
def writeC : List AV → List (Option AV) → Option (List (Option AV))
  | [], l => some l
  | u :: us, _ :: l => match writeC us l with
    | some r => some (some u :: r)
    | none => none
  | _ :: _, [] => none
def writeF (us : List AV) : List (Option AV) → Option (List (Option AV)) := List.rec (motive := fun _ => List (Option AV) → Option (List (Option AV))) (fun l => some l)
  (fun u _ ih l => List.casesOn (motive := fun _ => Option (List (Option AV))) l none fun _ l' => bnd (ih l') fun r => some (some u :: r)) us
theorem writeF_eq : ∀ (us : List AV) (l : List (Option AV)), writeF us l = putN l 0 us
  | [], l => by cases l <;> rfl
  | u :: us, [] => rfl
  | u :: us, x :: l => by
    show bnd (writeF us l) (fun r => some (some u :: r)) = _
    rw [writeF_eq us l, putN]
    cases putN l 0 us <;> rfl
def skipC (us : List AV) : Nat → List (Option AV) → Option (List (Option AV))
  | 0, l => writeC us l
  | o + 1, x :: l => match skipC us o l with
    | some r => some (x :: r)
    | none => none
  | _ + 1, [] => none
def skipF (us : List AV) (o : Nat) : List (Option AV) → Option (List (Option AV)) := Nat.rec (motive := fun _ => List (Option AV) → Option (List (Option AV))) (fun l => writeF us l)
  (fun _ ih l => List.casesOn (motive := fun _ => Option (List (Option AV))) l none fun x l' => bnd (ih l') fun r => some (x :: r)) o
theorem skipF_putN : ∀ (us : List AV) (o : Nat) (l r : List (Option AV)), skipF us o l = some r → putN l o us = some r
  | us, 0, l, r, h => by rw [← writeF_eq]; exact h
  | us, o + 1, [], r, h => by cases h
  | us, o + 1, x :: l, r, h => by
    obtain ⟨r', h1, h2⟩ := bnd_some.1 h
    cases h2
    have ih := skipF_putN us o l r' h1
    cases us with
    | nil => simp [putN] at ih ⊢; exact ih
    | cons u us => rw [putN, ih]; exact fun e => by cases e
def onesC : List AV → Bool
  | [] => true
  | v :: l => if v.oneF then onesC l else false
def onesF (us : List AV) : Bool := List.rec (motive := fun _ => Bool) true (fun v _ ih => Bool.casesOn (motive := fun _ => Bool) v.oneF false ih) us
theorem onesF_eq : ∀ us : List AV, onesF us = us.all AV.one
  | [] => rfl
  | v :: l => by
    show Bool.casesOn (motive := fun _ => Bool) v.oneF false (onesF l) = _
    rw [onesF_eq l, AV.oneF_eq, List.all_cons]
    cases v.one <;> rfl
def lenC {α : Type} : List α → Nat
  | [] => 0
  | _ :: l => lenC l + 1
def lenF {α : Type} (l : List α) : Nat := List.rec (motive := fun _ => Nat) 0 (fun _ _ ih => Nat.succ ih) l
theorem lenF_eq {α : Type} : ∀ l : List α, lenF l = l.length
  | [] => rfl
  | _ :: l => congrArg Nat.succ (lenF_eq l)

/-! ### Loads, fields, stores -/
/-- How a type is read: none: one cell; some n: an aggregate of n cells. -/
def loadK (P : Program) (t : TypeId) : Option (Option Nat) := match aggOf P t with
  | some true => match szOf P t with
    | some n => some (some n)
    | none => none
  | some false => some none
  | none => none
def pieceF (H : T Blk) (b off n : Nat) : Option (List AV) := bnd (H.get b) fun k => onCells k fun vs _ _ _ => takeNF n (dropF off vs)
theorem pieceF_eq (H : T Blk) (b off n : Nat) : pieceF H b off n = piece H b off n := by
  unfold pieceF piece
  cases H.get b with
  | none => rfl
  | some k => cases k <;> first | rfl | (show takeNF n (dropF off _) = takeN _ n; rw [takeNF_eq, dropF_eq])
def piece1F (H : T Blk) (b off : Nat) : Option AV := bnd (H.get b) fun k => onCells k fun vs _ _ _ => List.casesOn (motive := fun _ => Option AV) (dropF off vs) none fun x _ => x
theorem piece1F_eq {H : T Blk} {b off : Nat} {v : AV} (h : piece1F H b off = some v) : piece H b off 1 = some [v] := by
  obtain ⟨k, h1, h2⟩ := bnd_some.1 h
  obtain ⟨vs, e, ro, ex, rfl, h3⟩ := onCells_some.1 h2
  unfold piece
  rw [h1]
  simp only [dropF_eq] at h3 ⊢
  cases hd : vs.drop off with
  | nil => rw [hd] at h3; cases h3
  | cons x l => rw [hd] at h3; simp only at h3; subst h3; cases l <;> rfl
def loadF (P : Program) (H : T Blk) (t : TypeId) (v : AV) : Option AV := onPtr v fun b off => bnd (loadK P t) fun k =>
  Option.casesOn (motive := fun _ => Option AV) k (piece1F H b off) fun n => bnd (pieceF H b off n) fun cs => some (.agg cs)
theorem loadF_spec {P : Program} {H : T Blk} {t : TypeId} {v r : AV} (h : loadF P H t v = some r) : qLoad P H t v = some r := by
  obtain ⟨b, off, rfl, h⟩ := onPtr_some.1 h
  obtain ⟨k, h1, h2⟩ := bnd_some.1 h
  unfold loadK at h1
  unfold qLoad
  split at h1
  · rename_i ha
    split at h1
    · rename_i n hn; cases h1
      obtain ⟨cs, h3, h4⟩ := bnd_some.1 h2
      cases h4
      rw [pieceF_eq] at h3
      simp only [ha, hn, h3]
    · cases h1
  · rename_i ha; cases h1
    have h3 := piece1F_eq h2
    simp only [ha, h3]
  · cases h1
def fieldOff (P : Program) (s : TypeId) (f : Nat) : Option Nat := match P.underlying s with
  | some (.struct fields) => match nth fields.toList f with
    | some fd => match szOf P fd.type with
      | some (_ + 1) => some fd.offset
      | _ => none
    | none => none
  | _ => none
def fieldF (P : Program) (s : TypeId) (f : Nat) (v : AV) : Option AV := onPtr v fun b off => bnd (fieldOff P s f) fun d => some (.ptr b (Nat.add off d))
theorem fieldF_spec {P : Program} {s : TypeId} {f : Nat} {v r : AV} (h : fieldF P s f v = some r) : qFieldAddr P s f v = some r := by
  obtain ⟨b, off, rfl, h⟩ := onPtr_some.1 h
  obtain ⟨d, h1, h2⟩ := bnd_some.1 h
  cases h2
  unfold fieldOff at h1
  unfold qFieldAddr
  split at h1
  · rename_i fields hu
    split at h1
    · rename_i fd hf
      split at h1
      · rename_i n hn; cases h1
        simp only [hu, hf, hn]; rfl
      · cases h1
    · cases h1
  · cases h1
def storeF (P : Program) (H : T Blk) (nx : Nat) (t : TypeId) (x v : AV) : Option ARes := onPtr x fun b off => bnd (szOf P t) fun n =>
  bnd (H.get b) fun k => onCells k fun vs e ro ex => Bool.casesOn (motive := fun _ => Option ARes) ro
    (Bool.casesOn (motive := fun _ => Option ARes) (Nat.beq (lenF v.cellsF) n) none (Bool.casesOn (motive := fun _ => Option ARes) (onesF v.cellsF) none
      (bnd (skipF v.cellsF off vs) fun r => some (.skip (H.set (.cells r e false ex) b) nx)))) none
theorem storeF_spec {P : Program} {H : T Blk} {nx : Nat} {t : TypeId} {x v : AV} {r : ARes} (h : storeF P H nx t x v = some r) : aStore P H nx t x v = some r := by
  obtain ⟨b, off, rfl, h⟩ := onPtr_some.1 h
  obtain ⟨n, h1, h⟩ := bnd_some.1 h
  obtain ⟨k, h2, h⟩ := bnd_some.1 h
  obtain ⟨vs, e, ro, ex, rfl, h⟩ := onCells_some.1 h
  cases ro with
  | true => cases h
  | false =>
    simp only at h
    cases h3 : Nat.beq (lenF v.cellsF) n with
    | false => rw [h3] at h; cases h
    | true =>
      rw [h3] at h
      simp only at h
      cases h4 : onesF v.cellsF with
      | false => rw [h4] at h; cases h
      | true =>
        rw [h4] at h
        simp only at h
        obtain ⟨q, h5, h6⟩ := bnd_some.1 h
        cases h6
        rw [AV.cellsF_eq] at h3 h4 h5
        rw [lenF_eq] at h3
        rw [onesF_eq] at h4
        have h7 := skipF_putN _ _ _ _ h5
        simp only [aStore, h1, h3, cond_true, putB, h2, h7, h4, if_true]

/-! ### Integers -/
def kNum (k : IntKind) : Nat := IntKind.casesOn (motive := fun _ => Nat) k 0 1 2 3 4 5 6 7
theorem kNum_inj {j k : IntKind} (h : Nat.beq (kNum j) (kNum k) = true) : j = k := by
  have := Nat.eq_of_beq_eq_true h
  cases j <;> cases k <;> first | rfl | exact absurd this (by decide)
/-- Operators on two numbers that are not negative. -/
def natOp (k : IntKind) (m n : Nat) (op : BinOp) : Option AV := BinOp.casesOn (motive := fun _ => Option AV) op
  (Bool.casesOn (motive := fun _ => Option AV) (Nat.ble (Nat.add m n) 127) none (some (.int k (.ofNat (Nat.add m n)))))
  (Bool.casesOn (motive := fun _ => Option AV) (Nat.ble m 127) none (Bool.casesOn (motive := fun _ => Option AV) (Nat.ble n m) none (some (.int k (.ofNat (Nat.sub m n))))))
  none none none none none none none none none
  (some (.bool (Nat.beq m n))) (some (.bool (Bool.casesOn (motive := fun _ => Bool) (Nat.beq m n) true false)))
  (some (.bool (Nat.ble (Nat.succ m) n))) (some (.bool (Nat.ble m n))) (some (.bool (Nat.ble (Nat.succ n) m))) (some (.bool (Nat.ble n m)))
def intF (op : BinOp) (x y : AV) : Option AV := onInt x fun k a => onInt y fun j b => Int.casesOn (motive := fun _ => Option AV) a
  (fun m => Int.casesOn (motive := fun _ => Option AV) b (fun n => Bool.casesOn (motive := fun _ => Option AV) (Nat.beq (kNum k) (kNum j)) none (natOp k m n op)) fun _ => none) fun _ => none
theorem wrap_tiny (k : IntKind) (n : Nat) (h : n ≤ 127) : k.wrap (n : Int) = n := by
  cases k <;> simp [IntKind.wrap, IntKind.bits, IntKind.signed] <;> omega
theorem int_beq (m n : Nat) : (Int.ofNat m == Int.ofNat n) = Nat.beq m n := by
  rw [Bool.eq_iff_iff, beq_iff_eq, Nat.beq_eq]; exact ⟨fun h => Int.ofNat.inj h, fun h => by rw [h]⟩
theorem int_ble (m n : Nat) : decide (Int.ofNat m ≤ Int.ofNat n) = Nat.ble m n := by
  rw [Bool.eq_iff_iff, decide_eq_true_iff, Nat.ble_eq]; exact Int.ofNat_le
theorem int_blt (m n : Nat) : decide (Int.ofNat m < Int.ofNat n) = Nat.ble (Nat.succ m) n := by
  rw [Bool.eq_iff_iff, decide_eq_true_iff, Nat.ble_eq]; exact Int.ofNat_lt
theorem semV_bool (b : Bool) : semV (pure (.bool b)) = some (.bool b) := rfl
theorem binOp_cmp {k : IntKind} {a b : Int} {op : BinOp} {t : TypeId} (h : BinOp.casesOn (motive := fun _ => Bool) op false false false false false false false false false false false true true true true true true = true) (_h : True) :
    Go.binOp op t (.int k a) (.int k b) = Op.intCmp op a b := by
  cases op <;> first | (cases h; done) | simp [Go.binOp]
theorem natOp_spec {k : IntKind} {m n : Nat} {op : BinOp} {t : TypeId} {v : AV} (h : natOp k m n op = some v) : semV (Go.binOp op t (.int k (.ofNat m)) (.int k (.ofNat n))) = some v := by
  cases op <;> simp only [natOp] at h <;> (try (cases h; done))
  · cases h1 : Nat.ble (Nat.add m n) 127 <;> rw [h1] at h <;> simp only at h
    · cases h
    · cases h
      have h2 : m + n ≤ 127 := Nat.le_of_ble_eq_true h1
      have h3 : k.wrap ((m : Int) + n) = (m + n : Nat) := by rw [← Int.natCast_add]; exact wrap_tiny k _ h2
      simp only [Go.binOp, ne_eq, not_true_eq_false, if_false, Op.intArith, Int.ofNat_eq_natCast, h3]
      rfl
  · cases h1 : Nat.ble m 127 <;> rw [h1] at h <;> simp only at h
    · cases h
    · cases h2 : Nat.ble n m <;> rw [h2] at h <;> simp only at h
      · cases h
      · cases h
        have h3 : m ≤ 127 := Nat.le_of_ble_eq_true h1
        have h4 : n ≤ m := Nat.le_of_ble_eq_true h2
        have h5 : k.wrap ((m : Int) - n) = (m - n : Nat) := by
          rw [← Int.ofNat_sub h4]; exact wrap_tiny k _ (by omega)
        simp only [Go.binOp, ne_eq, not_true_eq_false, if_false, Op.intArith, Int.ofNat_eq_natCast, h5]
        rfl
  · cases h; rw [binOp_cmp (by decide) (by decide)]; exact congrArg (fun b => some (AV.bool b)) (int_beq m n)
  · cases h; rw [binOp_cmp (by decide) (by decide)]
    refine congrArg (fun b => some (AV.bool b)) (?_ : (Int.ofNat m != Int.ofNat n) = _)
    rw [bne, int_beq]; cases Nat.beq m n <;> rfl
  · cases h; rw [binOp_cmp (by decide) (by decide)]; exact congrArg (fun b => some (AV.bool b)) (int_blt m n)
  · cases h; rw [binOp_cmp (by decide) (by decide)]; exact congrArg (fun b => some (AV.bool b)) (int_ble m n)
  · cases h; rw [binOp_cmp (by decide) (by decide)]; exact congrArg (fun b => some (AV.bool b)) (int_blt n m)
  · cases h; rw [binOp_cmp (by decide) (by decide)]; exact congrArg (fun b => some (AV.bool b)) (int_ble n m)
theorem intF_spec {P : Program} {op : BinOp} {t : TypeId} {c : Bool} {x y v : AV} (h : intF op x y = some v) : qBin P op t c x y = some v := by
  obtain ⟨k, a, e1, h1⟩ := onInt_some.1 h
  obtain ⟨j, b, e2, h2⟩ := onInt_some.1 h1
  subst e1 e2
  clear h h1
  rename _ => h
  cases a with
  | negSucc a => cases h
  | ofNat m =>
    cases b with
    | negSucc b => cases h
    | ofNat n =>
      simp only at h
      cases h1 : Nat.beq (kNum k) (kNum j) <;> rw [h1] at h <;> simp only at h
      · cases h
      · have := kNum_inj h1; subst this
        exact natOp_spec h
def binF (P : Program) (op : BinOp) (t : TypeId) (c : Bool) (x y : AV) : Option AV := Option.casesOn (motive := fun _ => Option AV) (intF op x y) (qBin P op t c x y) fun v => some v
theorem binF_spec {P : Program} {op : BinOp} {t : TypeId} {c : Bool} {x y v : AV} (h : binF P op t c x y = some v) : qBin P op t c x y = some v := by
  unfold binF at h
  cases h1 : intF op x y with
  | none => rw [h1] at h; exact h
  | some u => rw [h1] at h; cases h; exact intF_spec h1
