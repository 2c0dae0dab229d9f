/-
  SIM, PART D. More operations that leave the world as it is: arithmetic, equality, conversions, slicing, addresses, indices.
-/
import Derived.Test.YtepkidlndboakaaGreatDoorSimC
import Derived.Laws.BytesString
import Derived.Lib.Strings
namespace Go.Proofs.YtepkidlndboakaaGreatDoor.Sim
open Go.RowKit (Below)
noncomputable section

section
variable {P : Program} {W0 : Base} {η : Env} {H : T Blk} {nx : Nat} {w : World}

/-- What a computation that looks at nothing gives. -/
def semV : Sem Value → Option AV
  | .pure v => ofV v
  | _ => none
theorem semV_run {s : Sem Value} {v : AV} (h : semV s = some v) : ∃ x, s.run P w = .ok x w ∧ VR η v x := by
  cases s with
  | pure x => exact ⟨x, rfl, ofV_VR h⟩
  | _ => simp [semV] at h

/-! ### Strings -/
theorem size_bytesOf (l : List Nat) : (bytesOf l).size = l.length := by simp [bytesOf, ByteArray.size]
theorem data_bytesOf (l : List Nat) : (bytesOf l).data.toList = l.map UInt8.ofNat := by simp [bytesOf]
theorem bytesOf_append (a b : List Nat) : bytesOf a ++ bytesOf b = bytesOf (a ++ b) := by
  apply ByteArray.ext
  rw [ByteArray.data_append]
  simp [bytesOf]
theorem bytesOf_extract (s : List Nat) (l h : Nat) : (bytesOf s).extract l h = bytesOf ((s.drop l).take (h - l)) := by
  rw [Lib.extract_eq, data_bytesOf]
  simp [bytesOf, List.map_take, List.map_drop]
def beqL : List Nat → List Nat → Bool
  | [], [] => true
  | a :: l, b :: m => bif (a % 256).beq (b % 256) then beqL l m else false
  | _, _ => false
theorem toUInt8_eq {a b : Nat} : UInt8.ofNat a = UInt8.ofNat b ↔ a % 256 = b % 256 := by
  constructor
  · intro h; have := congrArg UInt8.toNat h; simpa using this
  · intro h; apply UInt8.toNat_inj.1; simpa using h
theorem beqL_spec : ∀ (a b : List Nat), ((a.map UInt8.ofNat) == (b.map UInt8.ofNat)) = beqL a b
  | [], [] => rfl
  | [], _ :: _ => rfl
  | _ :: _, [] => rfl
  | a :: l, b :: m => by
    simp only [List.map_cons, beqL, List.cons_beq_cons, beqL_spec l m]
    cases h : (a % 256).beq (b % 256)
    · have : ¬ UInt8.ofNat a = UInt8.ofNat b := fun e => by
        have := toUInt8_eq.1 e
        rw [this] at h; simp at h
      simp [this]
    · have : UInt8.ofNat a = UInt8.ofNat b := toUInt8_eq.2 (Nat.eq_of_beq_eq_true h)
      simp [this]
theorem toList_bytesOf (a : List Nat) : (bytesOf a).toList = a.map UInt8.ofNat := by
  rw [← data_bytesOf]
  have := Lib.extract_toList (bytesOf a) 0 (bytesOf a).size
  rw [ByteArray.extract_zero_size] at this
  rw [this, List.drop_zero, List.take_of_length_le (by rw [Nat.sub_zero]; exact Nat.le_refl _)]
theorem beq_bytesOf (a b : List Nat) : ((bytesOf a).toList == (bytesOf b).toList) = beqL a b := by rw [toList_bytesOf, toList_bytesOf, beqL_spec]

/-! ### Equality -/
/-- x == y, where that can be told; c: one of the two stands as a constant. -/
def eqB (P : Program) (t : TypeId) (c : Bool) : AV → AV → Option Bool
  | .bool a, .bool b => match P.underlying t with | some .bool => some (a == b) | _ => none
  | .nilptr, .nilptr => match P.underlying t with | some (.pointer _) => some true | _ => none
  | .nilptr, .ptr _ _ => match P.underlying t with | some (.pointer _) => some false | _ => none
  | .ptr _ _, .nilptr => match P.underlying t with | some (.pointer _) => some false | _ => none
  | .ptr b o, .ptr b' o' => match P.underlying t with
    | some (.pointer e) => match szOf P e with
      | some (_ + 1) => bif b.beq b' then some (o.beq o') else none
      | _ => none
    | _ => none
  | .nilslice, .nilslice => match P.underlying t with | some (.slice _) => some true | _ => none
  | .nilslice, .slice _ _ _ _ _ => match P.underlying t with | some (.slice _) => some false | _ => none
  | .slice _ _ _ _ _, .nilslice => match P.underlying t with | some (.slice _) => some false | _ => none
  | .nilIface, .nilIface => match P.underlying t with | some (.interface _) => bif c then some true else none | _ => none
  | .nilIface, .iface _ _ => match P.underlying t with | some (.interface _) => some false | _ => none
  | .iface _ _, .nilIface => match P.underlying t with | some (.interface _) => some false | _ => none
  | .iface t1 (.int k a), .iface t2 (.int k' b) => match P.underlying t with
    | some (.interface _) => bif t1.beq t2 then
        (match P.underlying t1 with
          | some (.int _) => match P.info? t1 with
            | some i => bif i.comparable then (if k = k' then some (a == b) else none) else none
            | none => none
          | _ => none)
        else some false
    | _ => none
  | _, _ => none

theorem run_equalIn_succ {t : TypeId} {x y : Value} {r : Bool} (h : ∀ d, (Op.equalIn (d + 2) t x y).run P w = .ok r w) : (Op.equal t x y).run P w = .ok r w := h 9998

theorem eqIn_bool {d : Nat} {t : TypeId} {a b : Bool} (hu : P.underlying t = some .bool) : (Op.equalIn (d + 1) t (.bool a) (.bool b)).run P w = .ok (a == b) w := by
  simp only [Op.equalIn, Sem.run_bind, run_under hu, Result.andThen_ok]; rfl
theorem eqIn_pn {d : Nat} {t e : TypeId} {b : Option Addr} (hu : P.underlying t = some (.pointer e)) : (Op.equalIn (d + 1) t (.pointer none) (.pointer b)).run P w = .ok b.isNone w := by
  simp only [Op.equalIn, Sem.run_bind, run_under hu, Result.andThen_ok]; rfl
theorem eqIn_np {d : Nat} {t e : TypeId} {a : Addr} (hu : P.underlying t = some (.pointer e)) : (Op.equalIn (d + 1) t (.pointer (some a)) (.pointer none)).run P w = .ok false w := by
  simp only [Op.equalIn, Sem.run_bind, run_under hu, Result.andThen_ok]; rfl
theorem eqIn_pp {d : Nat} {t e : TypeId} {a b : Addr} {n : Nat} (hu : P.underlying t = some (.pointer e)) (hn : szOf P e = some (n + 1)) :
    (Op.equalIn (d + 1) t (.pointer (some a)) (.pointer (some b))).run P w = (sameAddr a b).run P w := by
  simp only [Op.equalIn, Sem.run_bind, run_under hu, Result.andThen_ok, run_size hn]
  rw [if_pos (by omega)]
theorem eqIn_sn {d : Nat} {t e : TypeId} {b : Option Addr} {n m k j : Nat} (hu : P.underlying t = some (.slice e)) : (Op.equalIn (d + 1) t (.slice none n m) (.slice b k j)).run P w = .ok b.isNone w := by
  simp only [Op.equalIn, Sem.run_bind, run_under hu, Result.andThen_ok]; rfl
theorem eqIn_ns {d : Nat} {t e : TypeId} {a : Addr} {n m k j : Nat} (hu : P.underlying t = some (.slice e)) : (Op.equalIn (d + 1) t (.slice (some a) n m) (.slice none k j)).run P w = .ok false w := by
  simp only [Op.equalIn, Sem.run_bind, run_under hu, Result.andThen_ok]; rfl
theorem eqIn_ii {d : Nat} {t : TypeId} {ms : Array (String × TypeId)} (hu : P.underlying t = some (.interface ms)) : (Op.equalIn (d + 1) t .nilIface .nilIface).run P w = .ok true w := by
  simp only [Op.equalIn, Sem.run_bind, run_under hu, Result.andThen_ok]; rfl
theorem eqIn_in {d : Nat} {t u : TypeId} {x : Value} {ms : Array (String × TypeId)} (hu : P.underlying t = some (.interface ms)) : (Op.equalIn (d + 1) t .nilIface (.iface u x)).run P w = .ok false w := by
  simp only [Op.equalIn, Sem.run_bind, run_under hu, Result.andThen_ok]; rfl
theorem eqIn_ni {d : Nat} {t u : TypeId} {x : Value} {ms : Array (String × TypeId)} (hu : P.underlying t = some (.interface ms)) : (Op.equalIn (d + 1) t (.iface u x) .nilIface).run P w = .ok false w := by
  simp only [Op.equalIn, Sem.run_bind, run_under hu, Result.andThen_ok]; rfl
theorem eqIn_ne {d : Nat} {t u u' : TypeId} {x y : Value} {ms : Array (String × TypeId)} (hu : P.underlying t = some (.interface ms)) (hne : u ≠ u') : (Op.equalIn (d + 1) t (.iface u x) (.iface u' y)).run P w = .ok false w := by
  simp only [Op.equalIn, Sem.run_bind, run_under hu, Result.andThen_ok]
  rw [if_pos hne]; rfl
theorem eqIn_int {d : Nat} {t : TypeId} {k k' : IntKind} {a b : Int} (hu : P.underlying t = some (.int k')) : (Op.equalIn (d + 1) t (.int k a) (.int k b)).run P w = .ok (a == b) w := by
  simp only [Op.equalIn, Sem.run_bind, run_under hu, Result.andThen_ok, if_true]; rfl
theorem eqIn_same {d : Nat} {t u : TypeId} {k k' : IntKind} {a b : Int} {ms : Array (String × TypeId)} {i : TypeInfo} (hu : P.underlying t = some (.interface ms)) (hu1 : P.underlying u = some (.int k')) (hi : P.info? u = some i) (hc : i.comparable = true) :
    (Op.equalIn (d + 2) t (.iface u (.int k a)) (.iface u (.int k b))).run P w = .ok (a == b) w := by
  rw [Op.equalIn]
  simp only [Sem.run_bind, run_under hu, Result.andThen_ok, ne_eq, not_true_eq_false, if_false, run_info hi, hc, Bool.not_true, Bool.false_eq_true]
  exact eqIn_int hu1

theorem sameAddr_block {B o o' : Nat} : (sameAddr ⟨B, o, none⟩ ⟨B, o', none⟩).run P w = .ok (o.beq o') w := by
  have : ((⟨B, o, none⟩ : Addr) == ⟨B, o', none⟩) = o.beq o' := by
    cases h : o.beq o'
    · have hne : o ≠ o' := fun e => by subst e; simp at h
      simp [hne]
    · have : o = o' := Nat.eq_of_beq_eq_true h
      subst this; simp
  simp [sameAddr, this]

theorem run_eqB {t : TypeId} {c : Bool} {x y : AV} {vx vy : Value} {r : Bool} (h : eqB P t c x y = some r) (hx : VR η x vx) (hy : VR η y vy) :
    (Op.equal t vx vy).run P w = .ok r w ∧ (∀ (op : BinOp) (ox oy : Operand), (c = true → ((ox matches .const _) || (oy matches .const _)) = true) → (eqGuard op t ox oy vx vy).run P w = .ok () w) ∧
      (∀ (k k' : IntKind) (a b : Int), ¬ (vx = .int k a ∧ vy = .int k' b)) ∧ (∀ a b, ¬ (vx = .string a ∧ vy = .string b)) := by
  unfold eqB at h
  split at h
  case h_1 a b =>
    simp only [VR] at hx hy; subst hx; subst hy
    split at h
    · rename_i hu
      cases h
      exact ⟨run_equalIn_succ fun _ => eqIn_bool hu, fun op ox oy _ => by unfold eqGuard; split <;> rfl, by simp, by simp⟩
    · cases h
  case h_2 =>
    simp only [VR] at hx hy; subst hx; subst hy
    split at h
    · rename_i hu
      cases h
      exact ⟨run_equalIn_succ fun _ => eqIn_pn hu, fun op ox oy _ => by unfold eqGuard; split <;> rfl, by simp, by simp⟩
    · cases h
  case h_3 =>
    simp only [VR] at hx hy; obtain ⟨l, _, rfl⟩ := hy; subst hx
    split at h
    · rename_i hu
      cases h
      exact ⟨run_equalIn_succ fun _ => eqIn_pn hu, fun op ox oy _ => by unfold eqGuard; split <;> rfl, by simp, by simp⟩
    · cases h
  case h_4 =>
    simp only [VR] at hx hy; obtain ⟨l, _, rfl⟩ := hx; subst hy
    split at h
    · rename_i hu
      cases h
      exact ⟨run_equalIn_succ fun _ => eqIn_np hu, fun op ox oy _ => by unfold eqGuard; split <;> rfl, by simp, by simp⟩
    · cases h
  case h_5 b o b' o' =>
    simp only [VR] at hx hy; obtain ⟨l, hl, rfl⟩ := hx; obtain ⟨l', hl', rfl⟩ := hy
    split at h
    · rename_i e hu
      split at h
      · rename_i n hn
        cases hb : b.beq b' <;> simp only [hb, cond_false, cond_true] at h
        · cases h
        · cases h
          have hbb : b = b' := Nat.eq_of_beq_eq_true hb
          subst hbb
          rw [hl] at hl'; cases hl'
          refine ⟨run_equalIn_succ fun _ => ?_, fun op ox oy _ => by unfold eqGuard; split <;> rfl, by simp, by simp⟩
          have e1 : (l.sh + o).beq (l.sh + o') = o.beq o' := by
            cases h1 : o.beq o'
            · have : o ≠ o' := fun e => by subst e; simp at h1
              cases h2 : (l.sh + o).beq (l.sh + o')
              · rfl
              · have := Nat.eq_of_beq_eq_true h2; omega
            · have : o = o' := Nat.eq_of_beq_eq_true h1
              subst this; simp
          rw [eqIn_pp hu hn, sameAddr_block, e1]
      · cases h
    · cases h
  case h_6 =>
    simp only [VR] at hx hy; subst hx; subst hy
    split at h
    · rename_i hu
      cases h
      exact ⟨run_equalIn_succ fun _ => eqIn_sn hu, fun op ox oy _ => by unfold eqGuard; split <;> rfl, by simp, by simp⟩
    · cases h
  case h_7 =>
    simp only [VR] at hx hy; obtain ⟨l, _, rfl⟩ := hy; subst hx
    split at h
    · rename_i hu
      cases h
      exact ⟨run_equalIn_succ fun _ => eqIn_sn hu, fun op ox oy _ => by unfold eqGuard; split <;> rfl, by simp, by simp⟩
    · cases h
  case h_8 =>
    simp only [VR] at hx hy; obtain ⟨l, _, rfl⟩ := hx; subst hy
    split at h
    · rename_i hu
      cases h
      exact ⟨run_equalIn_succ fun _ => eqIn_ns hu, fun op ox oy _ => by unfold eqGuard; split <;> rfl, by simp, by simp⟩
    · cases h
  case h_9 =>
    simp only [VR] at hx hy; subst hx; subst hy
    split at h
    · rename_i hu
      cases hc : c <;> simp only [hc, cond_false, cond_true] at h
      · cases h
      · cases h
        refine ⟨run_equalIn_succ fun _ => eqIn_ii hu, fun op ox oy hk => ?_, by simp, by simp⟩
        have := hk rfl
        unfold eqGuard
        split <;> simp only [Bool.not_true, Bool.not_false, Bool.false_eq_true, if_false, if_true] <;>
          first
            | rfl
            | (revert this; cases ox <;> cases oy <;> intro this <;> first | rfl | exact absurd (show false = true from this) (by decide))
    · cases h
  case h_10 =>
    simp only [VR] at hx hy; obtain ⟨z, rfl, _⟩ := hy; subst hx
    split at h
    · rename_i hu
      cases h
      exact ⟨run_equalIn_succ fun _ => eqIn_in hu, fun op ox oy _ => by unfold eqGuard; split <;> rfl, by simp, by simp⟩
    · cases h
  case h_11 =>
    simp only [VR] at hx hy; obtain ⟨z, rfl, _⟩ := hx; subst hy
    split at h
    · rename_i hu
      cases h
      exact ⟨run_equalIn_succ fun _ => eqIn_ni hu, fun op ox oy _ => by unfold eqGuard; split <;> rfl, by simp, by simp⟩
    · cases h
  case h_12 t1 k a t2 k' b =>
    simp only [VR] at hx hy
    obtain ⟨z, rfl, rfl⟩ := hx; obtain ⟨z', rfl, rfl⟩ := hy
    split at h
    · rename_i hu
      refine ⟨?_, fun op ox oy _ => by unfold eqGuard; split <;> rfl, by simp, by simp⟩
      cases ht : t1.beq t2 <;> simp only [ht, cond_false, cond_true] at h
      · cases h
        have hne : t1 ≠ t2 := fun e => by subst e; simp at ht
        exact run_equalIn_succ fun _ => eqIn_ne hu hne
      · have hte : t1 = t2 := Nat.eq_of_beq_eq_true ht
        subst hte
        split at h
        · rename_i k0 hu1
          split at h
          · rename_i i hi
            cases hc : i.comparable <;> simp only [hc, cond_false, cond_true] at h
            · cases h
            · split at h
              · rename_i hk
                cases h
                subst hk
                exact run_equalIn_succ fun _ => eqIn_same hu hu1 hi hc
              · cases h
          · cases h
        · cases h
    · cases h
  all_goals cases h

def qBin (P : Program) (op : BinOp) (t : TypeId) (c : Bool) (x y : AV) : Option AV :=
  match x, y with
  | .int k a, .int k' b => semV (Go.binOp op t (.int k a) (.int k' b))
  | .str a, .str b => match op with
    | .eql => some (.bool (beqL a b))
    | .neq => some (.bool (!beqL a b))
    | .add => bif Nat.ble (a.length + b.length) 1000000 then some (.str (a ++ b)) else none
    | _ => none
  | x, y => match op with
    | .eql => match eqB P t c x y with
      | some r => some (.bool r)
      | none => none
    | .neq => match eqB P t c x y with
      | some r => some (.bool !r)
      | none => none
    | _ => none
theorem eqGuard_int {op : BinOp} {t : TypeId} {ox oy : Operand} {k k' : IntKind} {a b : Int} : (eqGuard op t ox oy (.int k a) (.int k' b)).run P w = .ok () w := by unfold eqGuard; split <;> rfl
theorem eqGuard_str {op : BinOp} {t : TypeId} {ox oy : Operand} {a b : ByteArray} : (eqGuard op t ox oy (.string a) (.string b)).run P w = .ok () w := by unfold eqGuard; split <;> rfl
theorem binOp_eql {t : TypeId} {vx vy : Value} (h1 : ∀ (k k' : IntKind) (a b : Int), ¬ (vx = .int k a ∧ vy = .int k' b)) (h2 : ∀ a b, ¬ (vx = .string a ∧ vy = .string b))
    {r : Bool} (h : (Op.equal t vx vy).run P w = .ok r w) (hf : ∀ k a k' b, ¬ (vx = .float k a ∧ vy = .float k' b)) (hc : ∀ k a b k' c d, ¬ (vx = .complex k a b ∧ vy = .complex k' c d)) :
    (binOp .eql t vx vy).run P w = .ok (.bool r) w ∧ (binOp .neq t vx vy).run P w = .ok (.bool !r) w := by
  constructor <;> (unfold binOp; split <;> first
    | (exfalso; exact h1 _ _ _ _ ⟨rfl, rfl⟩)
    | (exfalso; exact h2 _ _ ⟨rfl, rfl⟩)
    | (exfalso; exact hf _ _ _ _ ⟨rfl, rfl⟩)
    | (exfalso; exact hc _ _ _ _ _ _ ⟨rfl, rfl⟩)
    | (simp_all; done))
theorem VR.not_float {η : Env} {v : AV} {x : Value} (h : VR η v x) : (∀ k a, x ≠ .float k a) ∧ (∀ k a b, x ≠ .complex k a b) := by
  cases v <;> simp only [VR] at h <;>
    first
      | (subst h; simp; done)
      | (obtain ⟨_, _, rfl⟩ := h; simp; done)
      | (obtain ⟨_, rfl, _⟩ := h; simp; done)
      | (obtain ⟨_, _, rfl, _⟩ := h; simp; done)
theorem run_qBin {op : BinOp} {t : TypeId} {c : Bool} {x y v : AV} {vx vy : Value} (h : qBin P op t c x y = some v) (hx : VR η x vx) (hy : VR η y vy) {ox oy : Operand}
    (hc : c = true → ((ox matches .const _) || (oy matches .const _)) = true) :
    (eqGuard op t ox oy vx vy).run P w = .ok () w ∧ ∃ z, (binOp op t vx vy).run P w = .ok z w ∧ VR η v z := by
  unfold qBin at h
  split at h
  · simp only [VR] at hx hy; subst hx; subst hy
    exact ⟨eqGuard_int, semV_run h⟩
  · rename_i a b
    simp only [VR] at hx hy; subst hx; subst hy
    refine ⟨eqGuard_str, ?_⟩
    split at h
    · cases h; exact ⟨_, by simp only [binOp, Op.stringOp, beq_bytesOf]; rfl, by simp [VR]⟩
    · cases h; exact ⟨_, by simp only [binOp, Op.stringOp, beq_bytesOf]; rfl, by simp [VR]⟩
    · cases hb : Nat.ble (a.length + b.length) 1000000 <;> simp only [hb, cond_false, cond_true] at h
      · cases h
      · cases h
        have := Nat.le_of_ble_eq_true hb
        refine ⟨.string (bytesOf a ++ bytesOf b), ?_, by simp only [VR]; rw [bytesOf_append]⟩
        have h2 : ¬ (((bytesOf a).size + (bytesOf b).size : Nat) : Int) > IntKind.i64.max := by
          rw [size_bytesOf, size_bytesOf]
          have : IntKind.i64.max = 9223372036854775807 := by decide
          omega
        simp only [binOp, Op.stringOp, if_neg h2]; rfl
    · cases h
  · split at h
    · split at h
      · rename_i r hr
        cases h
        obtain ⟨h1, h2, h3, h4⟩ := run_eqB (w := w) hr hx hy
        exact ⟨h2 _ _ _ hc, _, (binOp_eql h3 h4 h1 (fun k a _ _ e => hx.not_float.1 k a e.1) (fun k a b _ _ _ e => hx.not_float.2 k a b e.1)).1, by simp [VR]⟩
      · cases h
    · split at h
      · rename_i r hr
        cases h
        obtain ⟨h1, h2, h3, h4⟩ := run_eqB (w := w) hr hx hy
        exact ⟨h2 _ _ _ hc, _, (binOp_eql h3 h4 h1 (fun k a _ _ e => hx.not_float.1 k a e.1) (fun k a b _ _ _ e => hx.not_float.2 k a b e.1)).2, by simp [VR]⟩
      · cases h
    · cases h

def qUn (op : UnOp) : AV → Option AV
  | .bool b => match op with | .not => some (.bool !b) | _ => none
  | .int k n => semV (Op.unary op (.int k n))
  | _ => none
theorem run_qUn {op : UnOp} {x v : AV} {vx : Value} (h : qUn op x = some v) (hx : VR η x vx) : ∃ z, (Op.unary op vx).run P w = .ok z w ∧ VR η v z := by
  unfold qUn at h
  split at h
  · simp only [VR] at hx; subst hx
    split at h
    · cases h; exact ⟨_, rfl, by simp [VR]⟩
    · cases h
  · simp only [VR] at hx; subst hx
    exact semV_run h
  · cases h

/-! ### Conversions -/
def intsOf : List AV → Option (List Nat)
  | [] => some []
  | .int .u8 n :: l => match intsOf l with
    | some r => some (n.toNat :: r)
    | none => none
  | _ => none
theorem intsOf_spec : ∀ {l : List AV} {ns : List Nat} {xs : List Value}, intsOf l = some ns → VRs η l xs → ∃ is : List Int, xs = is.map (Value.int .u8) ∧ ns = is.map Int.toNat
  | [], ns, xs, h, hx => by simp [intsOf] at h; subst h; simp only [VRs] at hx; subst hx; exact ⟨[], rfl, rfl⟩
  | v :: l, ns, xs, h, hx => by
    unfold intsOf at h
    split at h
    · rename_i he; cases he
    · rename_i n l' he
      cases he
      split at h
      · rename_i r hr
        cases h
        simp only [VRs] at hx
        obtain ⟨x, xs', rfl, h1, h2⟩ := hx
        simp only [VR] at h1
        obtain ⟨is, rfl, rfl⟩ := intsOf_spec hr h2
        exact ⟨n :: is, by simp [h1], by simp⟩
      · cases h
    · cases h
theorem foldl_push : ∀ (is : List Int) (s : ByteArray), (is.foldl (fun r n => r.push (UInt8.ofNat n.toNat)) s).data.toList = s.data.toList ++ is.map fun n => UInt8.ofNat n.toNat
  | [], s => by simp
  | n :: is, s => by rw [List.foldl_cons, foldl_push is]; simp [ByteArray.push]
theorem foldl_bytesOf (is : List Int) : is.foldl (fun r n => r.push (UInt8.ofNat n.toNat)) ByteArray.empty = bytesOf (is.map Int.toNat) := by
  have h := foldl_push is ByteArray.empty
  apply ByteArray.ext
  apply Array.ext'
  rw [h, data_bytesOf, List.map_map]
  rfl

def qConv (P : Program) (H : T Blk) (src dst : TypeId) : AV → Option AV
  | .int _ n => match P.underlying src with
    | some _ => match P.underlying dst with
      | some (.int k) => some (.int k (k.wrap n))
      | _ => none
    | none => none
  | .str s => match P.underlying src with
    | some _ => match P.underlying dst with
      | some .string => some (.str s)
      | _ => none
    | none => none
  | .nilslice => match P.underlying src with
    | some (.slice e) => match P.underlying e with
      | some (.int .u8) => match P.underlying dst with
        | some .string => some (.str [])
        | _ => none
      | _ => none
    | _ => none
  | .slice b off len _ _ => match P.underlying src with
    | some (.slice e) => match P.underlying e with
      | some (.int .u8) => match P.underlying dst with
        | some .string => match piece H b off len with
          | some l => match intsOf l with
            | some ns => some (.str ns)
            | none => none
          | none => none
        | _ => none
      | _ => none
    | _ => none
  | .ptr b off => match P.underlying src with
    | some (.pointer t) => match P.underlying dst with
      | some .unsafePointer => match szOf P t with
        | some (_ + 1) => match H.get b with
          | some (.cells vs _ _ _) => bif off.blt vs.length then some (.ptr b off) else none
          | _ => none
        | _ => none
      | _ => none
    | some .unsafePointer => match P.underlying dst with
      | some (.pointer u) => match H.get b with
        | some (.cells vs e _ true) => match szOf P u with
          | some _ => bif liesAt P P.depth e (vs.length / P.cellsOf e) off u 1 then some (.ptr b off) else none
          | none => none
        | _ => none
      | _ => none
    | _ => none
  | _ => none
theorem seenAt_cells {B o : Nat} {c : Array Value} {e : TypeId} {fz : Nat × Nat} (h : w.heap[B]? = some (.cells c e fz)) : (Conv.seenAt ⟨B, o, none⟩).run P w = .ok ⟨B, o, none⟩ w := by
  simp [Conv.seenAt, viewAt, World.shape?, h]
theorem HR.qConv (h : HR P W0 η H nx w) {src dst : TypeId} {x v : AV} {vx : Value} (hq : Sim.qConv P H src dst x = some v) (hx : VR η x vx) :
    ∃ z, (convert src dst vx).run P w = .ok z w ∧ VR η v z := by
  unfold Sim.qConv at hq
  split at hq
  · simp only [VR] at hx; subst hx
    split at hq
    · rename_i d hs
      split at hq
      · rename_i k hd; cases hq
        exact ⟨.int k (k.wrap _), by simp only [convert, Sem.run_bind, run_under hs, run_under hd, Result.andThen_ok]; rfl, by simp [VR]⟩
      · cases hq
    · cases hq
  · simp only [VR] at hx; subst hx
    split at hq
    · rename_i d hs
      split at hq
      · rename_i hd; cases hq
        exact ⟨_, by simp only [convert, Sem.run_bind, run_under hs, run_under hd, Result.andThen_ok]; rfl, by simp only [VR]⟩
      · cases hq
    · cases hq
  · simp only [VR] at hx; subst hx
    split at hq
    · rename_i e hs
      split at hq
      · rename_i he
        split at hq
        · rename_i hd; cases hq
          refine ⟨.string .empty, ?_, by simp [VR, bytesOf]; rfl⟩
          rw [run_convert_bytes_string w src dst e none 0 0 hs he hd]; rfl
        · cases hq
      · cases hq
    · cases hq
  · rename_i b off len cap sl
    simp only [VR] at hx; obtain ⟨l, hl, rfl⟩ := hx
    split at hq
    · rename_i e hs
      split at hq
      · rename_i he
        split at hq
        · rename_i hd
          split at hq
          · rename_i us hus
            split at hq
            · rename_i ns hns; cases hq
              obtain ⟨xs, h1, _, h3⟩ := h.load hus hl
              obtain ⟨is, rfl, rfl⟩ := intsOf_spec hns h1
              rw [run_convert_bytes_string w src dst e _ _ _ hs he hd]
              exact ⟨_, run_bytesToString w _ _ _ is h3, by simp only [VR]; rw [foldl_bytesOf]⟩
            · cases hq
          · cases hq
        · cases hq
      · cases hq
    · cases hq
  · rename_i b off
    simp only [VR] at hx; obtain ⟨l, hl, rfl⟩ := hx
    split at hq
    · rename_i t hs
      split at hq
      · rename_i hd
        split at hq
        · rename_i n hn
          split at hq
          · rename_i vs e ro ex hb
            cases ho : off.blt vs.length <;> simp only [ho, cond_false, cond_true] at hq
            · cases hq
            · cases hq
              have ho' : off < vs.length := Nat.le_of_ble_eq_true ho
              obtain ⟨c, fz, h1, h2, _, _, _⟩ := h.blk b _ l hb hl
              refine ⟨.pointer (some ⟨l.B, l.sh + off, none⟩), ?_, by simp only [VR]; exact ⟨l, hl, rfl⟩⟩
              have hlt : ¬ c.size ≤ l.sh + off := by omega
              simp [convert, run_under hs, run_under hd, Conv.unsafePointer, seenAt_cells h1, cellsIn, World.shape?, h1, hlt, run_size hn]
          · cases hq
        · cases hq
      · cases hq
    · rename_i hs
      split at hq
      · rename_i u hd
        split at hq
        · rename_i vs e ro hb
          split at hq
          · rename_i n hn
            cases ho : liesAt P P.depth e (vs.length / P.cellsOf e) off u 1 <;> simp only [ho, cond_false, cond_true] at hq
            · cases hq
            · cases hq
              obtain ⟨c, fz, h1, h2, _, _, h5⟩ := h.blk b _ l hb hl
              obtain ⟨hsh, hcs⟩ := h5 rfl
              refine ⟨.pointer (some ⟨l.B, l.sh + off, none⟩), ?_, by simp only [VR]; exact ⟨l, hl, rfl⟩⟩
              have hva : (variablesAt ⟨l.B, l.sh + off, none⟩ u 1).run P w = .ok true w := by
                simp [variablesAt, World.shape?, h1, hcs, hsh, ho]
              simp [convert, run_under hs, run_under hd, Conv.unsafePointer, seenAt_cells h1, run_size hn, hva]
          · cases hq
        · cases hq
      · cases hq
    · cases hq
  · cases hq

end
end
end Go.Proofs.YtepkidlndboakaaGreatDoor.Sim
