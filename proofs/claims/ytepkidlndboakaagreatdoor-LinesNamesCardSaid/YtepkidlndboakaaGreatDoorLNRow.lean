/-
  LinesNames: THE ROW AND THE CARD.
-/
import Derived.Test.YtepkidlndboakaaGreatDoorLNRun
import Derived.ProofKit
import Derived.OpenShut
import Derived.LaidMore
import Derived.LaidLaws
import Derived.Lay
import Derived.SevenTiedAt
import Derived.Stop.Joined
import Derived.MakeChecks
namespace Go.Proofs.YtepkidlndboakaaGreatDoor
open Go.ChangeShapes Go.WideShapes Go.ChangeAt Go.RowKit Go.Proofs.YtepkidlndboakaaGreatDoor.Sim
noncomputable section

theorem star : "*" ++ "errors.errorString" = "*errors.errorString" := by decide
theorem row360 (u : TypeId) (h : Tryz.prog.typeName? 3 u = some "*errors.errorString") : u = 360 :=
  typeName_ptr_named (nm := "errors.errorString") (by rw [star]; kernel_rfl) (by kernel_rfl) (by decide) u (by rw [star]; exact h)
theorem name7 : Tryz.prog.globalNamed "math/bits.deBruijn32tab" = some 7 := by kernel_rfl
theorem name8 : Tryz.prog.globalNamed "math/bits.deBruijn64tab" = some 8 := by kernel_rfl
theorem name4 : Tryz.prog.globalNamed "internal/strconv.uint64pow10" = some 4 := by kernel_rfl
theorem name1 : Tryz.prog.globalNamed "unicode/utf8.acceptRanges" = some 1 := by kernel_rfl
theorem name6 : Tryz.prog.globalNamed "strconv.ErrRange" = some 6 := by kernel_rfl
theorem name5 : Tryz.prog.globalNamed "strconv.ErrSyntax" = some 5 := by kernel_rfl
theorem name2 : Tryz.prog.globalNamed "colonnade/kind.says" = some 2 := by kernel_rfl
theorem name0 : Tryz.prog.globalNamed "unicode/utf8.first" = some 0 := by kernel_rfl
theorem type7 : (Tryz.prog.globals[7]?).map (·.type) = some 358 := by kernel_rfl
theorem type8 : (Tryz.prog.globals[8]?).map (·.type) = some 359 := by kernel_rfl
theorem type4 : (Tryz.prog.globals[4]?).map (·.type) = some 323 := by kernel_rfl
theorem type1 : (Tryz.prog.globals[1]?).map (·.type) = some 178 := by kernel_rfl
theorem type6 : (Tryz.prog.globals[6]?).map (·.type) = some 111 := by kernel_rfl
theorem type5 : (Tryz.prog.globals[5]?).map (·.type) = some 111 := by kernel_rfl
theorem type2 : (Tryz.prog.globals[2]?).map (·.type) = some 184 := by kernel_rfl
theorem type0 : (Tryz.prog.globals[0]?).map (·.type) = some 175 := by kernel_rfl
theorem laid_plain : (Rows.linesNamesRow.laid.all fun x => x.2.handleName?.isNone) = true := by kernel_rfl

/-- A block of known cells. -/
theorem BR.tab {P : Program} {B0 : Nat} {η : Env} {w : World} {g : Nat} {vs : Array Value} {e : TypeId} {fz : Nat × Nat} {us : List AV} (h : w.heap[g]? = some (.cells vs e fz)) (hu : VRs η us vs.toList) :
    BR P B0 η (.cells (us.map some) e true false) ⟨g, 0, 0⟩ w := by
  have hl := hu.length
  refine ⟨vs, fz, h, by simp at hl ⊢; omega, fun i v hi => ?_, fun e => (by cases e), fun e => by cases e⟩
  rw [List.getElem?_map] at hi
  cases hx : us[i]? with
  | none => rw [hx] at hi; simp at hi
  | some u =>
    rw [hx] at hi; simp at hi; subst hi
    obtain ⟨x, h1, h2⟩ := hu.get i u hx
    exact ⟨x, by simpa using h1, h2⟩
theorem cell_block {w : World} {a : Addr} {v : Value} (h : w.cell? a = some v) : a.spot = none ∧ ∃ c e fz, w.heap[a.block]? = some (.cells c e fz) ∧ c[a.off]? = some v := by
  unfold World.cell? at h
  split at h
  · rename_i c e fz hb
    split at h
    · cases h
    · rename_i hs
      refine ⟨by simpa using hs, c, e, fz, hb, h⟩
  · cases h
theorem spotless {a : Addr} (h : a.spot = none) : a = ⟨a.block, a.off, none⟩ := by
  obtain ⟨b, o, s⟩ := a
  simp only at h
  subst h; rfl

def η0 (a5 a6 : Addr) : Env := fun i => if i < 9 then some ⟨i, 0, 0⟩ else if i = 14 then some ⟨a6.block, a6.off, 0⟩ else if i = 15 then some ⟨a5.block, a5.off, 0⟩ else none

theorem some_flat {d : DataW Unit} (h : (flatD d).isSome = true) : flatD d = some (cellsD d) := by
  unfold cellsD
  cases hd : flatD d with
  | none => rw [hd] at h; cases h
  | some l => rfl

theorem cells362 : Tryz.prog.cellsOf 362 = 1 := by kernel_rfl
theorem cells9 : Tryz.prog.cellsOf 9 = 1 := by kernel_rfl
theorem dense358 : dense Tryz.prog 5 358 = true := by kernel_rfl
theorem dense359 : dense Tryz.prog 5 359 = true := by kernel_rfl
theorem dense323 : dense Tryz.prog 5 323 = true := by kernel_rfl
theorem dense178 : dense Tryz.prog 5 178 = true := by kernel_rfl
theorem dense184 : dense Tryz.prog 5 184 = true := by kernel_rfl
theorem dense175 : dense Tryz.prog 5 175 = true := by kernel_rfl
theorem flat7 : (flatD Rows.laid_math_bits_deBruijn32tab).isSome = true := by kernel_rfl
theorem flat8 : (flatD Rows.laid_math_bits_deBruijn64tab).isSome = true := by kernel_rfl
theorem flat4 : (flatD Rows.laid_internal_strconv_uint64pow10).isSome = true := by kernel_rfl
theorem flat1 : (flatD Rows.laid_unicode_utf8_acceptRanges).isSome = true := by kernel_rfl
theorem flat2 : (flatD Rows.laid_colonnade_kind_says).isSome = true := by kernel_rfl
theorem flat0 : (flatD Rows.laid_unicode_utf8_first).isSome = true := by kernel_rfl
theorem var_block {P : Program} {W : World} {g : Nat} {name : String} {vs : Array Value} (hg : P.globalNamed name = some g) (hv : W.var? P name = some vs) : ∃ e fz, W.heap[g]? = some (.cells vs e fz) := by
  unfold World.var? at hv
  rw [hg, Option.bind_some] at hv
  split at hv
  · rename_i cs e fz hb; cases hv; exact ⟨e, fz, hb⟩
  · cases hv
theorem one_cell {P : Program} {B0 : Nat} {η : Env} {w : World} {b o : Nat} {c : Array Value} {e : TypeId} {fz : Nat × Nat} {v : AV} {x : Value} (h : w.heap[b]? = some (.cells c e fz)) (hx : c[o]? = some x) (hv : VR η v x) :
    BR P B0 η (.cells [some v] e true false) ⟨b, o, 0⟩ w := by
  have hlt := (Array.getElem?_eq_some_iff.1 hx).1
  refine ⟨c, fz, h, by simp; omega, fun i u hi => ?_, fun e => (by cases e), fun e => by cases e⟩
  cases i with
  | zero => simp at hi; subst hi; exact ⟨x, hx, hv⟩
  | succ i => simp at hi
theorem str_VR {η : Env} {s : ByteArray} {l : List UInt8} {ns : List Nat} (h : s.data.toList = l) (hn : l.map UInt8.toNat = ns) : VR η (.str ns) (.string s) := by
  subst hn; subst h
  simp only [VR, bytesOf_toNat]
theorem H0_get {es : Nat → TypeId} {i : Nat} {b : Blk} (h : (H0 es).get i = some b) :
    (i = 15 ∧ b = .cells [some (.str [105, 110, 118, 97, 108, 105, 100, 32, 115, 121, 110, 116, 97, 120])] (es 15) true false) ∨
    (i = 14 ∧ b = .cells [some (.str [118, 97, 108, 117, 101, 32, 111, 117, 116, 32, 111, 102, 32, 114, 97, 110, 103, 101])] (es 14) true false) ∨
    (i = 8 ∧ b = tab Rows.laid_math_bits_deBruijn64tab (es 8)) ∨ (i = 7 ∧ b = tab Rows.laid_math_bits_deBruijn32tab (es 7)) ∨
    (i = 6 ∧ b = .cells [some (.iface 360 (.ptr 14 0))] (es 6) true false) ∨ (i = 5 ∧ b = .cells [some (.iface 360 (.ptr 15 0))] (es 5) true false) ∨
    (i = 4 ∧ b = tab Rows.laid_internal_strconv_uint64pow10 (es 4)) ∨ (i = 2 ∧ b = tab Rows.laid_colonnade_kind_says (es 2)) ∨
    (i = 1 ∧ b = tab Rows.laid_unicode_utf8_acceptRanges (es 1)) ∨ (i = 0 ∧ b = tab Rows.laid_unicode_utf8_first (es 0)) := by
  unfold H0 at h
  rcases T.get_set h with h | ⟨_, h⟩
  · exact .inl h
  rcases T.get_set h with h | ⟨_, h⟩
  · exact .inr (.inl h)
  rcases T.get_set h with h | ⟨_, h⟩
  · exact .inr (.inr (.inl h))
  rcases T.get_set h with h | ⟨_, h⟩
  · exact .inr (.inr (.inr (.inl h)))
  rcases T.get_set h with h | ⟨_, h⟩
  · exact .inr (.inr (.inr (.inr (.inl h))))
  rcases T.get_set h with h | ⟨_, h⟩
  · exact .inr (.inr (.inr (.inr (.inr (.inl h)))))
  rcases T.get_set h with h | ⟨_, h⟩
  · exact .inr (.inr (.inr (.inr (.inr (.inr (.inl h))))))
  rcases T.get_set h with h | ⟨_, h⟩
  · exact .inr (.inr (.inr (.inr (.inr (.inr (.inr (.inl h)))))))
  rcases T.get_set h with h | ⟨_, h⟩
  · exact .inr (.inr (.inr (.inr (.inr (.inr (.inr (.inr (.inl h))))))))
  rcases T.get_set h with h | ⟨_, h⟩
  · exact .inr (.inr (.inr (.inr (.inr (.inr (.inr (.inr (.inr h))))))))
  · rw [T.get_e] at h; cases h
theorem H0_ro {es : Nat → TypeId} {i : Nat} {b : Blk} (h : (H0 es).get i = some b) : b.rw = false := by
  rcases H0_get h with ⟨_, rfl⟩ | ⟨_, rfl⟩ | ⟨_, rfl⟩ | ⟨_, rfl⟩ | ⟨_, rfl⟩ | ⟨_, rfl⟩ | ⟨_, rfl⟩ | ⟨_, rfl⟩ | ⟨_, rfl⟩ | ⟨_, rfl⟩ <;> rfl

set_option maxRecDepth 100000 in
theorem laid_start {W : World} (h : laidMetH Tryz.prog Rows.linesNamesRow.laid W) : ∃ η es, HR Tryz.prog ⟨W, fun _ => none⟩ η (H0 es) 16 W ∧ GR η 9 := by
  rw [MakeChecks.laidMetH_plain _ _ _ laid_plain] at h
  obtain ⟨ps, hV, _, hrows⟩ := h
  obtain ⟨g7, t7, c7, f7, p7, q7, hg7, ht7, hv7, hd7, hV, e7⟩ := hV
  obtain ⟨g8, t8, c8, f8, p8, q8, hg8, ht8, hv8, hd8, hV, e8⟩ := hV
  obtain ⟨g4, t4, c4, f4, p4, q4, hg4, ht4, hv4, hd4, hV, e4⟩ := hV
  obtain ⟨g1, t1, c1, f1, p1, q1, hg1, ht1, hv1, hd1, hV, e1⟩ := hV
  obtain ⟨g6, t6, c6, f6, p6, q6, hg6, ht6, hv6, hd6, hV, e6⟩ := hV
  obtain ⟨g5, t5, c5, f5, p5, q5, hg5, ht5, hv5, hd5, hV, e5⟩ := hV
  obtain ⟨g2, t2, c2, f2, p2, q2, hg2, ht2, hv2, hd2, hV, e2⟩ := hV
  obtain ⟨g0, t0, c0, f0, p0, q0, hg0, ht0, hv0, hd0, _, _⟩ := hV
  obtain rfl := Option.some.inj (name7.symm.trans hg7)
  obtain rfl := Option.some.inj (name8.symm.trans hg8)
  obtain rfl := Option.some.inj (name4.symm.trans hg4)
  obtain rfl := Option.some.inj (name1.symm.trans hg1)
  obtain rfl := Option.some.inj (name6.symm.trans hg6)
  obtain rfl := Option.some.inj (name5.symm.trans hg5)
  obtain rfl := Option.some.inj (name2.symm.trans hg2)
  obtain rfl := Option.some.inj (name0.symm.trans hg0)
  obtain rfl := Option.some.inj (type7.symm.trans ht7)
  obtain rfl := Option.some.inj (type8.symm.trans ht8)
  obtain rfl := Option.some.inj (type4.symm.trans ht4)
  obtain rfl := Option.some.inj (type1.symm.trans ht1)
  obtain rfl := Option.some.inj (type6.symm.trans ht6)
  obtain rfl := Option.some.inj (type5.symm.trans ht5)
  obtain rfl := Option.some.inj (type2.symm.trans ht2)
  obtain rfl := Option.some.inj (type0.symm.trans ht0)
  have in6 : ∀ x, x ∈ MemPlace.row ⟨6, 0, none⟩ c6.size ++ p6 ++ q6 → x ∈ ps := fun x hx => by
    rw [e7]; refine List.mem_append_right _ ?_
    rw [e8]; refine List.mem_append_right _ ?_
    rw [e4]; refine List.mem_append_right _ ?_
    rw [e1]; refine List.mem_append_right _ ?_
    rw [e6]; exact hx
  have in5 : ∀ x, x ∈ MemPlace.row ⟨5, 0, none⟩ c5.size ++ p5 ++ q5 → x ∈ ps := fun x hx => in6 x (List.mem_append_right _ (by rw [e5]; exact hx))
  obtain ⟨l6⟩ := c6
  obtain ⟨l5⟩ := c5
  have ok6 : ∀ u v, l6 = [.iface u v] → Value.okWide Tryz.prog W .any 0 u v := fun u v e => by
    subst e
    exact (hrows 6 0 (in6 _ (by simp [MemPlace.row]))).2 u v (by simpa using World.var?_cell hg6 hv6 0)
  have ok5 : ∀ u v, l5 = [.iface u v] → Value.okWide Tryz.prog W .any 0 u v := fun u v e => by
    subst e
    exact (hrows 5 0 (in5 _ (by simp [MemPlace.row]))).2 u v (by simpa using World.var?_cell hg5 hv5 0)
  obtain ⟨a6, s6, rfl, hc6, hs6, _, _⟩ := errorString_of_trod Tryz.underlying111 row360 Tryz.underlying360 Tryz.underlying362 rfl rfl Tryz.underlying9 cells362 cells9 hd6 ok6
  obtain ⟨a5, s5, rfl, hc5, hs5, _, _⟩ := errorString_of_trod Tryz.underlying111 row360 Tryz.underlying360 Tryz.underlying362 rfl rfl Tryz.underlying9 cells362 cells9 hd5 ok5
  obtain ⟨x7, z7, b7, r7⟩ := laid_cells (η := η0 a5 a6) 5 hg7 hv7 dense358 hd7 (some_flat flat7)
  obtain ⟨x8, z8, b8, r8⟩ := laid_cells (η := η0 a5 a6) 5 hg8 hv8 dense359 hd8 (some_flat flat8)
  obtain ⟨x4, z4, b4, r4⟩ := laid_cells (η := η0 a5 a6) 5 hg4 hv4 dense323 hd4 (some_flat flat4)
  obtain ⟨x1, z1, b1, r1⟩ := laid_cells (η := η0 a5 a6) 5 hg1 hv1 dense178 hd1 (some_flat flat1)
  obtain ⟨x2, z2, b2, r2⟩ := laid_cells (η := η0 a5 a6) 5 hg2 hv2 dense184 hd2 (some_flat flat2)
  obtain ⟨x0, z0, b0, r0⟩ := laid_cells (η := η0 a5 a6) 5 hg0 hv0 dense175 hd0 (some_flat flat0)
  obtain ⟨x6, z6, b6⟩ := var_block hg6 hv6
  obtain ⟨x5, z5, b5⟩ := var_block hg5 hv5
  obtain ⟨n6, k6, x14, z14, b14, r14⟩ := cell_block hc6
  obtain ⟨n5, k5, x15, z15, b15, r15⟩ := cell_block hc5
  have e14 : η0 a5 a6 14 = some ⟨a6.block, a6.off, 0⟩ := rfl
  have e15 : η0 a5 a6 15 = some ⟨a5.block, a5.off, 0⟩ := rfl
  refine ⟨η0 a5 a6, fun i => match i with | 0 => x0 | 1 => x1 | 2 => x2 | 4 => x4 | 5 => x5 | 6 => x6 | 7 => x7 | 8 => x8 | 14 => x14 | _ => x15, ?_, fun g hg => by simp [η0, hg]⟩
  refine ⟨⟨rfl, rfl, rfl, Nat.le_refl _, fun _ _ => rfl⟩, fun i p hi => (by cases hi), fun i hi => ?_, fun i b l hb hl => ?_, fun i j b c l m hij hb hc _ _ hrw hl hm => ?_⟩
  · unfold η0
    rw [if_neg (by omega), if_neg (by omega), if_neg (by omega)]
  · rcases H0_get hb with ⟨rfl, rfl⟩ | ⟨rfl, rfl⟩ | ⟨rfl, rfl⟩ | ⟨rfl, rfl⟩ | ⟨rfl, rfl⟩ | ⟨rfl, rfl⟩ | ⟨rfl, rfl⟩ | ⟨rfl, rfl⟩ | ⟨rfl, rfl⟩ | ⟨rfl, rfl⟩
    · rw [e15] at hl; cases hl
      exact one_cell b15 r15 (str_VR hs5 rfl)
    · rw [e14] at hl; cases hl
      exact one_cell b14 r14 (str_VR hs6 rfl)
    · have e : l = ⟨8, 0, 0⟩ := (Option.some.inj hl).symm
      subst e; exact BR.tab b8 r8
    · have e : l = ⟨7, 0, 0⟩ := (Option.some.inj hl).symm
      subst e; exact BR.tab b7 r7
    · have e : l = ⟨6, 0, 0⟩ := (Option.some.inj hl).symm
      subst e
      refine BR.tab (us := [.iface 360 (.ptr 14 0)]) b6 ?_
      simp only [VRs, VR]
      exact ⟨_, _, rfl, ⟨_, rfl, _, e14, by rw [Nat.add_zero]; exact congrArg (fun a => Value.pointer (some a)) (spotless n6)⟩, rfl⟩
    · have e : l = ⟨5, 0, 0⟩ := (Option.some.inj hl).symm
      subst e
      refine BR.tab (us := [.iface 360 (.ptr 15 0)]) b5 ?_
      simp only [VRs, VR]
      exact ⟨_, _, rfl, ⟨_, rfl, _, e15, by rw [Nat.add_zero]; exact congrArg (fun a => Value.pointer (some a)) (spotless n5)⟩, rfl⟩
    · have e : l = ⟨4, 0, 0⟩ := (Option.some.inj hl).symm
      subst e; exact BR.tab b4 r4
    · have e : l = ⟨2, 0, 0⟩ := (Option.some.inj hl).symm
      subst e; exact BR.tab b2 r2
    · have e : l = ⟨1, 0, 0⟩ := (Option.some.inj hl).symm
      subst e; exact BR.tab b1 r1
    · have e : l = ⟨0, 0, 0⟩ := (Option.some.inj hl).symm
      subst e; exact BR.tab b0 r0
  · rw [H0_ro hb, H0_ro hc] at hrw
    rcases hrw with h | h <;> cases h
end
end Go.Proofs.YtepkidlndboakaaGreatDoor
