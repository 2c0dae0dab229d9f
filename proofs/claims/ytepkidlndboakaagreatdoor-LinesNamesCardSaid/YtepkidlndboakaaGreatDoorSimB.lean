/-
  SIM, PART B. Abstract blocks, the relation between an abstract heap and a world, and what allocations, stores and draws do to it.
-/
import Derived.Test.YtepkidlndboakaaGreatDoorSimA
namespace Go.Proofs.YtepkidlndboakaaGreatDoor.Sim
open Go.RowKit (Below)
noncomputable section

inductive ADef where
  | fn (f : Nat) (captured args : List AV)
  | collected (b : Nat)

/-- The record of a range over a function. -/
structure ALoop where
  state : LoopState
  fn : Nat
  tm : T AV
  N : Nat
  params : Array Tmp
  assign : Code
  body : Code
  defers : Nat

inductive Blk where
  | cells (vs : List (Option AV)) (elem : TypeId) (ro ex : Bool)
  | dead
  | emap
  | siter (s : List Nat) (pos : Nat)
  | dfr
  | loop (l : ALoop)

/-- May the block be written? -/
def Blk.rw : Blk → Bool
  | .cells _ _ ro _ => !ro
  | .dead => false
  | _ => true
/-- What is known of the temporaries. -/
def TR (η : Env) (A : T AV) (tm : Array Value) : Prop := ∀ t v, A.get t = some v → ∃ x, tm[t]? = some x ∧ VR η v x
theorem TR.mono {η η' : Env} (h : η.le η') {A : T AV} {tm : Array Value} (k : TR η A tm) : TR η' A tm :=
  fun t v e => let ⟨x, hx, hv⟩ := k t v e; ⟨x, hx, VR.mono h _ _ hv⟩
theorem TR.set {η : Env} {A : T AV} {tm : Array Value} (k : TR η A tm) {v : AV} {x : Value} (hv : VR η v x) {t : Nat} (ht : t < tm.size) : TR η (A.set v t) (tm.setIfInBounds t x) := by
  intro u y hy
  rcases T.get_set hy with ⟨rfl, rfl⟩ | ⟨hne, hy⟩
  · exact ⟨x, by simp [ht], hv⟩
  · obtain ⟨z, hz, hr⟩ := k u y hy
    exact ⟨z, by rw [Array.getElem?_setIfInBounds_ne (Ne.symm hne)]; exact hz, hr⟩

def LR (η : Env) (a : ALoop) (l : Loop) : Prop :=
  l.state = a.state ∧ l.pending = none ∧ l.fn = a.fn ∧ TR η a.tm l.tmps ∧ l.tmps.size = a.N ∧ l.params = a.params ∧ l.assign = a.assign ∧ l.body = a.body ∧
    ∃ d, η a.defers = some d ∧ l.defers = d.B
theorem LR.mono {η η' : Env} (h : η.le η') {a : ALoop} {l : Loop} (k : LR η a l) : LR η' a l := by
  obtain ⟨h1, h2, h3, h4, h5, h6, h7, h8, d, h9, h10⟩ := k
  exact ⟨h1, h2, h3, h4.mono h, h5, h6, h7, h8, d, h _ _ h9, h10⟩

/-- No cell of the block is frozen. -/
def thaw (c : Array Value) (fz : Nat × Nat) : Prop := ∀ o, o < c.size → (decide (fz.1 ≤ o) && decide (o < fz.2)) = false

/-- What an abstract block says of the world: B0 is where the call's own blocks begin. -/
def BR (P : Program) (B0 : Nat) (η : Env) : Blk → Loc → World → Prop
  | .cells vs elem ro ex, l, w => ∃ c fz, w.heap[l.B]? = some (.cells c elem fz) ∧ l.sh + vs.length + l.sl * P.cellsOf elem ≤ c.size ∧
      (∀ i v, vs[i]? = some (some v) → ∃ x, c[l.sh + i]? = some x ∧ VR η v x) ∧ (ro = false → B0 ≤ l.B ∧ thaw c fz) ∧ (ex = true → l.sh = 0 ∧ c.size = vs.length)
  | .dead, _, _ => True
  | .emap, l, w => l.sh = 0 ∧ B0 ≤ l.B ∧ ∃ ck, w.heap[l.B]? = some (.map #[] ck)
  | .siter s pos, l, w => l.sh = 0 ∧ B0 ≤ l.B ∧ w.heap[l.B]? = some (.stringIter (bytesOf s) pos)
  | .dfr, l, w => l.sh = 0 ∧ B0 ≤ l.B ∧ w.heap[l.B]? = some (.deferred (some []))
  | .loop al, l, w => l.sh = 0 ∧ B0 ≤ l.B ∧ ∃ lp, w.heap[l.B]? = some (.loop lp) ∧ LR η al lp

theorem BR.same {P : Program} {B0 : Nat} {η η' : Env} {b : Blk} {l : Loc} {w w' : World} (hle : η.le η') (hw : w'.heap[l.B]? = w.heap[l.B]?) (h : BR P B0 η b l w) : BR P B0 η' b l w' := by
  cases b with
  | cells vs elem ro ex =>
    obtain ⟨c, fz, h1, h2, h3, h4, h5⟩ := h
    exact ⟨c, fz, hw.trans h1, h2, fun i v hi => let ⟨x, hx, hv⟩ := h3 i v hi; ⟨x, hx, VR.mono hle _ _ hv⟩, h4, h5⟩
  | dead => trivial
  | emap => obtain ⟨h1, h2, ck, h3⟩ := h; exact ⟨h1, h2, ck, hw.trans h3⟩
  | siter s pos => obtain ⟨h1, h2, h3⟩ := h; exact ⟨h1, h2, hw.trans h3⟩
  | dfr => obtain ⟨h1, h2, h3⟩ := h; exact ⟨h1, h2, hw.trans h3⟩
  | loop al => obtain ⟨h1, h2, lp, h3, h4⟩ := h; exact ⟨h1, h2, lp, hw.trans h3, h4.mono hle⟩

theorem BR.lt {P : Program} {B0 : Nat} {η : Env} {b : Blk} {l : Loc} {w : World} (h : BR P B0 η b l w) (hb : b ≠ .dead) : l.B < w.heap.size := by
  have lt_of {o : Obj} (e : w.heap[l.B]? = some o) : l.B < w.heap.size := (Array.getElem?_eq_some_iff.1 e).1
  cases b with
  | cells vs elem ro ex => obtain ⟨c, fz, h1, _⟩ := h; exact lt_of h1
  | dead => exact absurd rfl hb
  | emap => obtain ⟨_, _, ck, h3⟩ := h; exact lt_of h3
  | siter s pos => exact lt_of h.2.2
  | dfr => exact lt_of h.2.2
  | loop al => obtain ⟨_, _, lp, h3, _⟩ := h; exact lt_of h3

def Env.bind (η : Env) (i : Nat) (l : Loc) : Env := fun j => if j = i then some l else η j
theorem Env.le_bind {η : Env} {i : Nat} (h : η i = none) (l : Loc) : η.le (η.bind i l) := by
  intro j m hj
  unfold Env.bind
  split
  · subst_vars; rw [h] at hj; cases hj
  · exact hj
theorem Env.bind_same (η : Env) (i : Nat) (l : Loc) : η.bind i l i = some l := by simp [Env.bind]
theorem Env.bind_ne (η : Env) {i j : Nat} (h : j ≠ i) (l : Loc) : η.bind i l j = η j := by simp [Env.bind, h]

/-- Where the call began; and which numbers are kept for blocks that are not there yet, with the depth of the frame that keeps them. -/
structure Base extends World where
  R : Nat → Option Nat
/-- The abstract heap H, whose next number is nx, stands for the world w (W0: where the call began). -/
structure HR (P : Program) (W0 : Base) (η : Env) (H : T Blk) (nx : Nat) (w : World) : Prop where
  below : Below W0.heap.size W0.toWorld w
  res : ∀ i p, W0.R i = some p → η i = none ∧ i < nx
  fresh : ∀ i, nx ≤ i → η i = none
  blk : ∀ i b l, H.get i = some b → η i = some l → BR P W0.heap.size η b l w
  inj : ∀ i j b c l m, i ≠ j → H.get i = some b → H.get j = some c → b ≠ .dead → c ≠ .dead → b.rw = true ∨ c.rw = true → η i = some l → η j = some m → l.B ≠ m.B

section
variable {P : Program} {W0 : Base} {η : Env} {H : T Blk} {nx : Nat} {w : World}

theorem HR.nx_le (h : HR P W0 η H nx w) {nx' : Nat} (hn : nx ≤ nx') : HR P W0 η H nx' w :=
  ⟨h.below, fun i p hi => ⟨(h.res i p hi).1, Nat.lt_of_lt_of_le (h.res i p hi).2 hn⟩, fun i hi => h.fresh i (Nat.le_trans hn hi), h.blk, h.inj⟩

theorem HR.of_heap (h : HR P W0 η H nx w) {w' : World} (hh : w'.heap = w.heap) (ho : w'.os = w.os) (ht : w'.tape = w.tape) (hp : w'.output = w.output) : HR P W0 η H nx w' := by
  refine ⟨⟨ho.trans h.below.os, ht.trans h.below.tape, hp.trans h.below.output, by rw [hh]; exact h.below.size, fun k hk => by rw [hh]; exact h.below.block k hk⟩, h.res, h.fresh, fun i b l hb hl => ?_, h.inj⟩
  exact (h.blk i b l hb hl).same (Env.le_refl _) (by rw [hh])
theorem HR.drew (h : HR P W0 η H nx w) : HR P W0 η H nx w.drew := h.of_heap rfl rfl rfl rfl

theorem HR.base_le (h : HR P W0 η H nx w) : W0.heap.size ≤ w.heap.size := h.below.size

/-- A new block. -/
theorem HR.alloc (h : HR P W0 η H nx w) {id : Nat} (hid : η id = none) (hR : W0.R id = none) {nx' : Nat} (hnx : nx ≤ nx') (hid' : id < nx') {blk : Blk} {o : Obj} {sl : Nat} {H' : T Blk}
    (hH : ∀ j b, H'.get j = some b → (j = id ∧ b = blk) ∨ (j ≠ id ∧ H.get j = some b))
    (hb : BR P W0.heap.size (η.bind id ⟨w.heap.size, 0, sl⟩) blk ⟨w.heap.size, 0, sl⟩ (w.alloc o)) :
    HR P W0 (η.bind id ⟨w.heap.size, 0, sl⟩) H' nx' (w.alloc o) := by
  have hle := Env.le_bind hid ⟨w.heap.size, 0, sl⟩
  have old : ∀ i b l, H.get i = some b → η i = some l → b ≠ .dead → l.B < w.heap.size := fun i b l hb' hl hd => (h.blk i b l hb' hl).lt hd
  refine ⟨h.below.alloc h.base_le o, fun i p hi => ⟨(by rw [Env.bind_ne _ (fun e => by subst e; rw [hR] at hi; cases hi)]; exact (h.res i p hi).1), Nat.lt_of_lt_of_le (h.res i p hi).2 hnx⟩, fun i hi => ?_, fun i b l hb' hl => ?_, fun i j b c l m hij hb' hc hbd hcd hrw hl hm => ?_⟩
  · rw [Env.bind_ne _ (by omega)]; exact h.fresh i (by omega)
  · rcases hH i b hb' with ⟨rfl, rfl⟩ | ⟨hne, hb'⟩
    · rw [Env.bind_same] at hl; cases hl; exact hb
    · rw [Env.bind_ne _ hne] at hl
      by_cases hd : b = .dead
      · subst hd; trivial
      · exact (h.blk i b l hb' hl).same hle (Below.heap_alloc _ _ _ (old i b l hb' hl hd))
  · rcases hH i b hb' with ⟨rfl, rfl⟩ | ⟨hni, hb'⟩ <;> rcases hH j c hc with ⟨rfl, rfl⟩ | ⟨hnj, hc⟩
    · exact absurd rfl hij
    · rw [Env.bind_same] at hl; cases hl
      rw [Env.bind_ne _ hnj] at hm
      have := old j c m hc hm hcd
      intro e; simp at e; omega
    · rw [Env.bind_same] at hm; cases hm
      rw [Env.bind_ne _ hni] at hl
      have := old i b l hb' hl hbd
      intro e; simp at e; omega
    · rw [Env.bind_ne _ hni] at hl; rw [Env.bind_ne _ hnj] at hm
      exact h.inj i j b c l m hij hb' hc hbd hcd hrw hl hm

theorem HR.R_nx (h : HR P W0 η H nx w) : W0.R nx = none := by
  cases e : W0.R nx with
  | none => rfl
  | some p => exact absurd (h.res nx p e).2 (Nat.lt_irrefl _)
theorem HR.alloc_nx (h : HR P W0 η H nx w) {blk : Blk} {o : Obj} {sl : Nat}
    (hb : BR P W0.heap.size (η.bind nx ⟨w.heap.size, 0, sl⟩) blk ⟨w.heap.size, 0, sl⟩ (w.alloc o)) :
    HR P W0 (η.bind nx ⟨w.heap.size, 0, sl⟩) (H.set blk nx) (nx + 1) (w.alloc o) ∧ η.le (η.bind nx ⟨w.heap.size, 0, sl⟩) :=
  ⟨h.alloc (h.fresh nx (Nat.le_refl _)) h.R_nx (Nat.le_succ _) (Nat.lt_succ_self _) (fun _ _ hj => T.get_set hj) hb, Env.le_bind (h.fresh nx (Nat.le_refl _)) _⟩

/-- Two worlds that part in one block alone. -/
structure SameBut (w w' : World) (B : Nat) : Prop where
  os : w'.os = w.os
  tape : w'.tape = w.tape
  output : w'.output = w.output
  size : w'.heap.size = w.heap.size
  block : ∀ k, k ≠ B → w'.heap[k]? = w.heap[k]?

theorem HR.below_but (h : HR P W0 η H nx w) {w' : World} {B : Nat} (hs : SameBut w w' B) (hB : W0.heap.size ≤ B) : Below W0.heap.size W0.toWorld w' :=
  ⟨hs.os.trans h.below.os, hs.tape.trans h.below.tape, hs.output.trans h.below.output, by rw [hs.size]; exact h.below.size,
    fun k hk => (hs.block k (by omega)).trans (h.below.block k hk)⟩

/-- One block is another now. -/
theorem HR.upd (h : HR P W0 η H nx w) {id : Nat} {b b' : Blk} {l : Loc} (hb : H.get id = some b) (hrw : b.rw = true) (hl : η id = some l) {w' : World} (hs : SameBut w w' l.B) (hB : W0.heap.size ≤ l.B)
    (hb' : BR P W0.heap.size η b' l w') : HR P W0 η (H.set b' id) nx w' := by
  have hd : b ≠ .dead := fun e => by subst e; cases hrw
  refine ⟨h.below_but hs hB, h.res, h.fresh, fun i c m hc hm => ?_, fun i j c e m k hij hc he hcd hed hcr hm hk => ?_⟩
  · rcases T.get_set hc with ⟨rfl, rfl⟩ | ⟨hne, hc⟩
    · rw [hl] at hm; cases hm; exact hb'
    · by_cases hcd : c = .dead
      · subst hcd; trivial
      · exact (h.blk i c m hc hm).same (Env.le_refl _) (hs.block _ (h.inj i id c b m l hne hc hb hcd hd (.inr hrw) hm hl))
  · rcases T.get_set hc with ⟨rfl, rfl⟩ | ⟨hni, hc'⟩ <;> rcases T.get_set he with ⟨rfl, rfl⟩ | ⟨hnj, he'⟩
    · exact absurd rfl hij
    · rw [hl] at hm; cases hm
      exact h.inj _ j b e l k hij hb he' hd hed (.inl hrw) hl hk
    · rw [hl] at hk; cases hk
      exact h.inj i _ c b m l hij hc' hb hcd hd (.inr hrw) hm hl
    · exact h.inj i j c e m k hij hc' he' hcd hed hcr hm hk

/-- A block is dead, and a new number stands for what lies there. -/
theorem HR.move (h : HR P W0 η H nx w) {id : Nat} {b b' : Blk} {l l' : Loc} (hb : H.get id = some b) (hrw : b.rw = true) (hl : η id = some l) {w' : World} (hs : SameBut w w' l.B) (hB : W0.heap.size ≤ l.B)
    (he : l'.B = l.B) (hb' : BR P W0.heap.size (η.bind nx l') b' l' w') :
    HR P W0 (η.bind nx l') ((H.set .dead id).set b' nx) (nx + 1) w' ∧ η.le (η.bind nx l') := by
  have hd : b ≠ .dead := fun e => by subst e; cases hrw
  have hfr := h.fresh nx (Nat.le_refl _)
  have hle := Env.le_bind hfr l'
  have hidn : id ≠ nx := fun e => by subst e; rw [hl] at hfr; cases hfr
  have look : ∀ j c, ((H.set .dead id).set b' nx).get j = some c → (j = nx ∧ c = b') ∨ (j ≠ nx ∧ c = .dead) ∨ (j ≠ nx ∧ j ≠ id ∧ H.get j = some c) := by
    intro j c hj
    rcases T.get_set hj with ⟨rfl, rfl⟩ | ⟨hne, hj⟩
    · exact .inl ⟨rfl, rfl⟩
    · rcases T.get_set hj with ⟨rfl, rfl⟩ | ⟨hne', hj⟩
      · exact .inr (.inl ⟨hne, rfl⟩)
      · exact .inr (.inr ⟨hne, hne', hj⟩)
  refine ⟨⟨h.below_but hs hB, fun i p hi => ⟨(by rw [Env.bind_ne _ (fun e => by subst e; rw [h.R_nx] at hi; cases hi)]; exact (h.res i p hi).1), Nat.lt_succ_of_lt (h.res i p hi).2⟩, fun i hi => ?_, fun i c m hc hm => ?_, fun i j c e m k hij hc hee hcd hed hcr hm hk => ?_⟩, hle⟩
  · rw [Env.bind_ne _ (by omega)]; exact h.fresh i (by omega)
  · rcases look i c hc with ⟨rfl, rfl⟩ | ⟨hne, rfl⟩ | ⟨hne, hne', hc⟩
    · rw [Env.bind_same] at hm; cases hm; exact hb'
    · trivial
    · rw [Env.bind_ne _ hne] at hm
      by_cases hcd : c = .dead
      · subst hcd; trivial
      · exact (h.blk i c m hc hm).same hle (hs.block _ (h.inj i id c b m l hne' hc hb hcd hd (.inr hrw) hm hl))
  · rcases look i c hc with ⟨rfl, rfl⟩ | ⟨hni, rfl⟩ | ⟨hni, hni', hc'⟩
    · rcases look j e hee with ⟨rfl, rfl⟩ | ⟨hnj, rfl⟩ | ⟨hnj, hnj', hee'⟩
      · exact absurd rfl hij
      · exact absurd rfl hed
      · rw [Env.bind_same] at hm; cases hm
        rw [Env.bind_ne _ hnj] at hk
        rw [he]
        exact (h.inj j id e b k l hnj' hee' hb hed hd (.inr hrw) hk hl).symm
    · exact absurd rfl hcd
    · rcases look j e hee with ⟨rfl, rfl⟩ | ⟨hnj, rfl⟩ | ⟨hnj, hnj', hee'⟩
      · rw [Env.bind_same] at hk; cases hk
        rw [Env.bind_ne _ hni] at hm
        rw [he]
        exact h.inj i id c b m l hni' hc' hb hcd hd (.inr hrw) hm hl
      · exact absurd rfl hed
      · rw [Env.bind_ne _ hni] at hm; rw [Env.bind_ne _ hnj] at hk
        exact h.inj i j c e m k hij hc' hee' hcd hed hcr hm hk

/-! ### Reading cells -/
theorem HR.cell (h : HR P W0 η H nx w) {b : Nat} {vs : List (Option AV)} {e : TypeId} {ro : Bool} {ex : Bool} (hb : H.get b = some (.cells vs e ro ex)) {l : Loc} (hl : η b = some l)
    {i : Nat} {v : AV} (hi : vs[i]? = some (some v)) : ∃ x, w.cell? ⟨l.B, l.sh + i, none⟩ = some x ∧ VR η v x := by
  obtain ⟨c, fz, h1, _, h3, _, _⟩ := h.blk b _ l hb hl
  obtain ⟨x, hx, hv⟩ := h3 i v hi
  exact ⟨x, by simp [World.cell?, h1, hx], hv⟩

/-- n known cells. -/
def takeN : List (Option AV) → Nat → Option (List AV)
  | _, 0 => some []
  | some v :: l, n + 1 => match takeN l n with
    | some r => some (v :: r)
    | none => none
  | _, _ + 1 => none
theorem takeN_spec : ∀ {l : List (Option AV)} {n : Nat} {us : List AV}, takeN l n = some us → us.length = n ∧ ∀ (i : Nat) (v : AV), us[i]? = some v → l[i]? = some (some v)
  | _, 0, us, h => by simp [takeN] at h; subst h; simp
  | [], n + 1, us, h => by simp [takeN] at h
  | none :: l, n + 1, us, h => by simp [takeN] at h
  | some v :: l, n + 1, us, h => by
    simp only [takeN] at h
    split at h
    · rename_i r hr
      cases h
      obtain ⟨h1, h2⟩ := takeN_spec hr
      refine ⟨by simp [h1], fun i u hu => ?_⟩
      cases i with
      | zero => simpa using hu
      | succ i => simpa using h2 i u (by simpa using hu)
    · cases h

theorem add_addr (B o n : Nat) : (⟨B, o, none⟩ : Addr).add n = ⟨B, o + n, none⟩ := by unfold Addr.add; split <;> simp_all

theorem run_loadCellsFrom' (B o : Nat) : ∀ (xs : List Value) (i : Nat) (acc : Array Value), (∀ j x, xs[j]? = some x → w.cell? ⟨B, o + (i + j), none⟩ = some x) →
    (loadCellsFrom ⟨B, o, none⟩ i xs.length acc).run P w = .ok (acc ++ xs.toArray) w
  | [], i, acc, _ => by simp [loadCellsFrom]
  | x :: xs, i, acc, h => by
    have h0 := h 0 x (by simp)
    have ih := run_loadCellsFrom' B o xs (i + 1) (acc.push x) (fun j y hy => by have := h (j + 1) y (by simpa using hy); rwa [show i + (j + 1) = i + 1 + j by omega] at this)
    simp only [List.length_cons, loadCellsFrom, Sem.run_bind, add_addr, run_load]
    simp only [Nat.add_zero] at h0
    simp only [h0, Result.andThen_ok, ih]
    simp
theorem run_loadCells' (B o : Nat) (xs : List Value) (h : ∀ j x, xs[j]? = some x → w.cell? ⟨B, o + j, none⟩ = some x) :
    (loadCells ⟨B, o, none⟩ xs.length).run P w = .ok xs.toArray w := by
  have := run_loadCellsFrom' (P := P) (w := w) B o xs 0 #[] (fun j x hx => by simpa using h j x hx)
  simpa [loadCells] using this

/-- The cells of a piece of a block. -/
def piece (H : T Blk) (b off n : Nat) : Option (List AV) :=
  match H.get b with
  | some (.cells vs _ _ _) => takeN (vs.drop off) n
  | _ => none
theorem HR.piece (h : HR P W0 η H nx w) {b off n : Nat} {us : List AV} (hp : piece H b off n = some us) {l : Loc} (hl : η b = some l) :
    ∃ xs : List Value, xs.length = n ∧ us.length = n ∧ VRs η us xs ∧ (∀ j x, xs[j]? = some x → w.cell? ⟨l.B, l.sh + off + j, none⟩ = some x) := by
  unfold Sim.piece at hp
  split at hp
  · rename_i vs e ro ex hb
    obtain ⟨hn, hu⟩ := takeN_spec hp
    have key : ∀ i v, us[i]? = some v → ∃ x, w.cell? ⟨l.B, l.sh + off + i, none⟩ = some x ∧ VR η v x := fun i v hv => by
      have := hu i v hv
      rw [List.getElem?_drop] at this
      obtain ⟨x, hx, hr⟩ := h.cell hb hl this
      exact ⟨x, by rw [show l.sh + off + i = l.sh + (off + i) by omega]; exact hx, hr⟩
    clear hu hp
    suffices ∃ xs : List Value, xs.length = us.length ∧ VRs η us xs ∧ (∀ j x, xs[j]? = some x → w.cell? ⟨l.B, l.sh + off + j, none⟩ = some x) by
      obtain ⟨xs, h1, h2, h3⟩ := this
      exact ⟨xs, by omega, hn, h2, h3⟩
    clear hn hb
    generalize l.sh + off = o at key ⊢
    clear hl
    induction us generalizing o with
    | nil => exact ⟨[], rfl, by simp [VRs], by simp⟩
    | cons u us ih =>
      obtain ⟨x, hx, hr⟩ := key 0 u (by simp)
      obtain ⟨xs, h1, h2, h3⟩ := ih (o + 1) (fun i v hv => by
        obtain ⟨y, hy, hv'⟩ := key (i + 1) v (by simpa using hv)
        exact ⟨y, by rw [show o + 1 + i = o + (i + 1) by omega]; exact hy, hv'⟩)
      refine ⟨x :: xs, by simp [h1], by simp only [VRs]; exact ⟨x, xs, rfl, hr, h2⟩, fun j y hy => ?_⟩
      cases j with
      | zero => simp at hy; subst hy; simpa using hx
      | succ j => have := h3 j y (by simpa using hy); rwa [show o + 1 + j = o + (j + 1) by omega] at this
  · cases hp

theorem HR.load (h : HR P W0 η H nx w) {b off n : Nat} {us : List AV} (hp : Sim.piece H b off n = some us) {l : Loc} (hl : η b = some l) :
    ∃ xs : List Value, VRs η us xs ∧ xs.length = n ∧ (loadCells ⟨l.B, l.sh + off, none⟩ n).run P w = .ok xs.toArray w := by
  obtain ⟨xs, h1, _, h3, h4⟩ := h.piece hp hl
  subst h1
  exact ⟨xs, h3, rfl, run_loadCells' _ _ xs h4⟩

/-! ### Writing cells -/
/-- Some cells of a list, from a place on, written over. -/
def putN : List (Option AV) → Nat → List AV → Option (List (Option AV))
  | l, _, [] => some l
  | _ :: l, 0, u :: us => match putN l 0 us with
    | some r => some (some u :: r)
    | none => none
  | x :: l, o + 1, us => match putN l o us with
    | some r => some (x :: r)
    | none => none
  | [], _, _ :: _ => none
theorem putN_spec : ∀ {l : List (Option AV)} {o : Nat} {us : List AV} {r : List (Option AV)}, putN l o us = some r →
    r.length = l.length ∧ (us ≠ [] → o + us.length ≤ l.length) ∧ ∀ i, r[i]? = if o ≤ i ∧ i < o + us.length then (us[i - o]?).map some else l[i]?
  | l, o, [], r, h => by
    simp [putN] at h; subst h
    refine ⟨rfl, fun e => absurd rfl e, fun i => ?_⟩
    rw [if_neg (by simp only [List.length_nil]; omega)]
  | [], o, u :: us, r, h => by simp [putN] at h
  | x :: l, 0, u :: us, r, h => by
    simp only [putN] at h
    split at h
    · rename_i r' hr
      cases h
      obtain ⟨h1, h2, h3⟩ := putN_spec hr
      refine ⟨by simp [h1], fun _ => ?_, fun i => ?_⟩
      · cases us with
        | nil => simp
        | cons y us => have := h2 (by simp); simp at this ⊢; omega
      · cases i with
        | zero => simp
        | succ i =>
          have := h3 i
          simp only [List.getElem?_cons_succ, this, Nat.zero_le, true_and, Nat.zero_add, List.length_cons, Nat.add_lt_add_iff_right, Nat.sub_zero, List.getElem?_cons_succ]
    · cases h
  | x :: l, o + 1, u :: us, r, h => by
    simp only [putN] at h
    split at h
    · rename_i r' hr
      cases h
      obtain ⟨h1, h2, h3⟩ := putN_spec hr
      refine ⟨by simp [h1], fun _ => by have := h2 (by simp); simp at this ⊢; omega, fun i => ?_⟩
      cases i with
      | zero => simp
      | succ i =>
        have := h3 i
        simp only [List.getElem?_cons_succ, this]
        have e : (o + 1 ≤ i + 1 ∧ i + 1 < o + 1 + (u :: us).length) ↔ (o ≤ i ∧ i < o + (u :: us).length) := by omega
        simp only [e]
        split
        · rw [show i + 1 - (o + 1) = i - o by omega]
        · rfl
    · cases h

def setFrom : Array Value → Nat → List Value → Array Value
  | c, _, [] => c
  | c, o, x :: xs => setFrom (c.setIfInBounds o x) (o + 1) xs
theorem size_setFrom : ∀ (c : Array Value) (o : Nat) (xs : List Value), (setFrom c o xs).size = c.size
  | _, _, [] => rfl
  | c, o, x :: xs => by rw [setFrom, size_setFrom]; simp
theorem get_setFrom : ∀ (xs : List Value) (c : Array Value) (o i : Nat), o + xs.length ≤ c.size →
    (setFrom c o xs)[i]? = if o ≤ i ∧ i < o + xs.length then xs[i - o]? else c[i]?
  | [], c, o, i, _ => by simp only [setFrom]; rw [if_neg (by simp only [List.length_nil]; omega)]
  | x :: xs, c, o, i, h => by
    rw [setFrom, get_setFrom xs _ (o + 1) i (by simp at h ⊢; omega)]
    by_cases h1 : o + 1 ≤ i ∧ i < o + 1 + xs.length
    · rw [if_pos h1, if_pos (by simp; omega)]
      obtain ⟨k, rfl⟩ : ∃ k, i = o + 1 + k := ⟨i - (o + 1), by omega⟩
      rw [show o + 1 + k - (o + 1) = k by omega, show o + 1 + k - o = k + 1 by omega]
      simp
    · rw [if_neg h1]
      by_cases h2 : i = o
      · subst h2
        rw [if_pos (by simp)]
        simp only [List.length_cons] at h
        simp [show i < c.size by omega]
      · rw [if_neg (by simp; omega), Array.getElem?_setIfInBounds_ne (Ne.symm h2)]

def setRow (w : World) (B : Nat) (c : Array Value) (e : TypeId) (fz : Nat × Nat) : World := { w with heap := w.heap.setIfInBounds B (.cells c e fz) }
theorem setRow_same {B : Nat} {c : Array Value} {e : TypeId} {fz : Nat × Nat} : SameBut w (setRow w B c e fz) B :=
  ⟨rfl, rfl, rfl, by simp [setRow], fun k hk => by simp [setRow, Array.getElem?_setIfInBounds_ne (Ne.symm hk)]⟩
theorem setRow_get {B : Nat} {c : Array Value} {e : TypeId} {fz : Nat × Nat} (hB : B < w.heap.size) : (setRow w B c e fz).heap[B]? = some (.cells c e fz) := by simp [setRow, hB]

theorem run_storeCells' (B o : Nat) : ∀ (xs : List Value) (i : Nat) (c : Array Value) (e : TypeId) (fz : Nat × Nat) (w : World), w.heap[B]? = some (.cells c e fz) → thaw c fz → o + i + xs.length ≤ c.size → (∀ x ∈ xs, x.oneCell' = true) →
    (storeCells ⟨B, o, none⟩ xs i).run P w = .ok () (setRow w B (setFrom c (o + i) xs) e fz)
  | [], i, c, e, fz, w, hw, _, _, _ => by
    have hB := (Array.getElem?_eq_some_iff.1 hw)
    obtain ⟨hlt, hg⟩ := hB
    simp only [storeCells, Sem.run_pure, setFrom, setRow]
    congr 1
    obtain ⟨heap, tape, drawn, os, output⟩ := w
    simp only at hg hlt ⊢
    congr 1
    apply Array.ext_getElem?
    intro k
    by_cases hk : k = B
    · subst hk; simp [hlt, hg]
    · rw [Array.getElem?_setIfInBounds_ne (Ne.symm hk)]
  | x :: xs, i, c, e, fz, w, hw, ht, hlen, h1 => by
    have hlt := (Array.getElem?_eq_some_iff.1 hw).1
    simp only [List.length_cons] at hlen
    have hc : w.cell? ⟨B, o + i, none⟩ = some c[o + i] := by simp [World.cell?, hw, Array.getElem?_eq_getElem (show o + i < c.size by omega)]
    have hf : w.frozen? ⟨B, o + i, none⟩ = false := by simp only [World.frozen?, hw]; exact ht (o + i) (by omega)
    have hset : w.setCell ⟨B, o + i, none⟩ x = setRow w B (c.setIfInBounds (o + i) x) e fz := by
      simp only [World.setCell, setRow]
      congr 1
      apply Array.ext_getElem?
      intro k
      by_cases hk : k = B
      · subst hk; rw [Array.getElem?_modify, if_pos rfl, hw]; simp [hlt]
      · rw [Array.getElem?_setIfInBounds_ne (Ne.symm hk), Array.getElem?_modify, if_neg (Ne.symm hk)]
    have hst : (store ((⟨B, o, none⟩ : Addr).add i) x).run P w = .ok () (setRow w B (c.setIfInBounds (o + i) x) e fz) := by
      rw [add_addr, run_store P w _ x _ (h1 x (by simp))]
      simp only [hc, hf, Bool.false_eq_true, if_false, hset]
    have ih := run_storeCells' B o xs (i + 1) (c.setIfInBounds (o + i) x) e fz (setRow w B (c.setIfInBounds (o + i) x) e fz) (setRow_get hlt)
      (fun k hk => ht k (by simpa using hk)) (by simp; omega) (fun y hy => h1 y (by simp [hy]))
    simp only [storeCells, Sem.run_bind, hst, Result.andThen_ok, ih]
    rw [show o + (i + 1) = o + i + 1 by omega]
    congr 1
    simp only [setRow, setFrom]
    congr 1
    apply Array.ext_getElem?
    intro k
    by_cases hk : k = B
    · subst hk; simp [hlt]
    · simp [Array.getElem?_setIfInBounds_ne (Ne.symm hk)]

/-- A block whose cells from off on are us now. -/
def putB (H : T Blk) (b off : Nat) (us : List AV) : Option (T Blk) :=
  match H.get b with
  | some (.cells vs e false ex) => match putN vs off us with
    | some r => if us.all AV.one then some (H.set (.cells r e false ex) b) else none
    | none => none
  | _ => none

theorem VRs.ones {η : Env} : ∀ {us : List AV} {xs : List Value}, VRs η us xs → us.all AV.one = true → ∀ x ∈ xs, x.oneCell' = true
  | [], _, h, _, x, hx => by simp only [VRs] at h; subst h; simp at hx
  | u :: us, _, h, h1, x, hx => by
    simp only [VRs] at h; obtain ⟨y, ys, rfl, hy, hys⟩ := h
    simp only [List.all_cons, Bool.and_eq_true] at h1
    rcases List.mem_cons.1 hx with rfl | hx
    · exact hy.one h1.1
    · exact hys.ones h1.2 x hx

/-- Cells written over: what the block says behind it. -/
theorem BR.put {vs r : List (Option AV)} {e : TypeId} {off : Nat} {us : List AV} {xs : List Value} {l : Loc} {c : Array Value} {fz : Nat × Nat} {B0 : Nat} {w' : World}
    (hr : putN vs off us = some r) (hx : VRs η us xs) (hlen : l.sh + vs.length + l.sl * P.cellsOf e ≤ c.size)
    (hc : ∀ i v, vs[i]? = some (some v) → ∃ x, c[l.sh + i]? = some x ∧ VR η v x) (hB : B0 ≤ l.B) (ht : thaw c fz)
    (hw : w'.heap[l.B]? = some (.cells (setFrom c (l.sh + off) xs) e fz)) {ex : Bool} (hex : ex = true → l.sh = 0 ∧ c.size = vs.length) : BR P B0 η (.cells r e false ex) l w' := by
  obtain ⟨h1, h2, h3⟩ := putN_spec hr
  have hxl := hx.length
  have hle : l.sh + off + xs.length ≤ c.size ∨ xs = [] := by
    cases us with
    | nil => exact .inr (by simp only [VRs] at hx; exact hx)
    | cons u us => have := h2 (by simp); exact .inl (by omega)
  refine ⟨_, fz, hw, by rw [h1, size_setFrom]; exact hlen, fun i v hv => ?_, fun _ => ⟨hB, fun o ho => ht o (by rwa [size_setFrom] at ho)⟩, fun e => by rw [h1, size_setFrom]; exact hex e⟩
  rw [h3] at hv
  rcases hle with hle | rfl
  · rw [get_setFrom xs c (l.sh + off) (l.sh + i) hle]
    by_cases hi : off ≤ i ∧ i < off + us.length
    · rw [if_pos hi] at hv
      rw [if_pos (by omega), show l.sh + i - (l.sh + off) = i - off by omega]
      cases hu : us[i - off]? with
      | none => rw [hu] at hv; simp at hv
      | some u =>
        rw [hu] at hv; simp at hv; subst hv
        exact hx.get _ _ hu
    · rw [if_neg hi] at hv
      rw [if_neg (by omega)]
      exact hc i v hv
  · simp only [List.length_nil] at hxl
    rw [if_neg (by omega)] at hv
    exact hc i v hv

theorem HR.store (h : HR P W0 η H nx w) {b off : Nat} {us : List AV} {H' : T Blk} (hp : putB H b off us = some H') {l : Loc} (hl : η b = some l) {xs : List Value} (hx : VRs η us xs) :
    ∃ w', (storeCells ⟨l.B, l.sh + off, none⟩ xs).run P w = .ok () w' ∧ HR P W0 η H' nx w' ∧ SameBut w w' l.B := by
  unfold putB at hp
  split at hp
  · rename_i vs e ex hb
    split at hp
    · rename_i r hr
      split at hp
      · rename_i h1
        cases hp
        obtain ⟨c, fz, hw, hlen, hc, hro, hex⟩ := h.blk b _ l hb hl
        obtain ⟨hB, ht⟩ := hro rfl
        obtain ⟨_, hin, _⟩ := putN_spec hr
        have hxl := hx.length
        have hlt := (Array.getElem?_eq_some_iff.1 hw).1
        have hle : l.sh + off + 0 + xs.length ≤ c.size ∨ xs = [] := by
          cases us with
          | nil => exact .inr (by simp only [VRs] at hx; exact hx)
          | cons u us => have := hin (by simp); exact .inl (by omega)
        rcases hle with hle | rfl
        · have hrun := run_storeCells' (P := P) l.B (l.sh + off) xs 0 c e fz w hw ht hle (hx.ones h1)
          refine ⟨_, hrun, h.upd hb rfl hl setRow_same hB ?_, setRow_same⟩
          exact BR.put hr hx hlen hc hB ht (setRow_get hlt) hex
        · refine ⟨w, rfl, h.upd hb rfl hl ⟨rfl, rfl, rfl, rfl, fun _ _ => rfl⟩ hB ?_, ⟨rfl, rfl, rfl, rfl, fun _ _ => rfl⟩⟩
          exact BR.put hr hx hlen hc hB ht hw hex
      · cases hp
    · cases hp
  · cases hp

end
end
end Go.Proofs.YtepkidlndboakaaGreatDoor.Sim
