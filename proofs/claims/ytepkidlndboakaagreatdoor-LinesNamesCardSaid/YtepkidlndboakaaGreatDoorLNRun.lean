/-
  THE RUN OF LinesNames BY THE ABSTRACT MACHINE.
-/
import Derived.Test.YtepkidlndboakaaGreatDoorRows
import Derived.Test.YtepkidlndboakaaGreatDoorSimV
namespace Go.Proofs.YtepkidlndboakaaGreatDoor
open Go.Proofs.YtepkidlndboakaaGreatDoor.Sim
noncomputable section

def mkT {α : Type} : List α → Nat → T α → T α
  | [], _, t => t
  | x :: l, i, t => mkT l (i + 1) (t.set x i)
theorem mkT_get {α : Type} {x : α} {j : Nat} : ∀ {l : List α} {i : Nat} {t : T α}, (mkT l i t).get j = some x → (∃ k, l[k]? = some x ∧ j = i + k) ∨ t.get j = some x
  | [], i, t, h => .inr h
  | y :: l, i, t, h => by
    rcases mkT_get (l := l) h with ⟨k, h1, h2⟩ | h1
    · exact .inl ⟨k + 1, by simpa using h1, by omega⟩
    · rcases T.get_set h1 with ⟨rfl, rfl⟩ | ⟨_, h2⟩
      · exact .inl ⟨0, by simp, by omega⟩
      · exact .inr h2
theorem mkT_funcs {P : Program} {f : Nat} {F : Func} (h : (mkT P.funcs.toList 0 .e).get f = some F) : P.funcs[f]? = some F ∧ F ∈ P.funcs.toList := by
  rcases mkT_get h with ⟨k, h1, h2⟩ | h1
  · rw [Nat.zero_add] at h2; subst h2
    exact ⟨by rw [← Array.getElem?_toList]; exact h1, List.mem_of_getElem? h1⟩
  · rw [T.get_e] at h1; cases h1
noncomputable def fns : T Func := mkT Tryz.prog.funcs.toList 0 .e
def exts : T Ext := ((((T.e).set .idx 201).set .cnt 144).set .same 93).set .mnz 94
noncomputable def cx : Cx := { P := Tryz.prog, Fn := fns, E := exts, ng := 9, sm := fun _ _ => none }

theorem no_count : (Tryz.prog.funcs.toList.all fun F => !(F.name == "runtime.NumGoroutine")) = true := by kernel_rfl
theorem fns_get {f : Nat} {F : Func} (h : fns.get f = some F) : Tryz.prog.funcs[f]? = some F ∧ (F.name == "runtime.NumGoroutine") = false := by
  obtain ⟨h1, h2⟩ := mkT_funcs (P := Tryz.prog) h
  refine ⟨h1, ?_⟩
  have := List.all_eq_true.1 no_count F h2
  rwa [Bool.not_eq_true'] at this
theorem exts_get {f : Nat} {x : Ext} (h : exts.get f = some x) : (f = 94 ∧ x = .mnz) ∨ (f = 93 ∧ x = .same) ∨ (f = 144 ∧ x = .cnt) ∨ (f = 201 ∧ x = .idx) := by
  unfold exts at h
  rcases T.get_set h with h | ⟨_, h⟩
  · exact .inl h
  rcases T.get_set h with h | ⟨_, h⟩
  · exact .inr (.inl h)
  rcases T.get_set h with h | ⟨_, h⟩
  · exact .inr (.inr (.inl h))
  rcases T.get_set h with h | ⟨_, h⟩
  · exact .inr (.inr (.inr h))
  · rw [T.get_e] at h; cases h
theorem ext94 : Extern.findNext Tryz.f94 = none ∧ Extern.find Tryz.f94 = some (Ext.sem .mnz Tryz.f94) := ⟨by kernel_rfl, by kernel_rfl⟩
theorem ext93 : Extern.findNext Tryz.f93 = none ∧ Extern.find Tryz.f93 = some (Ext.sem .same Tryz.f93) := ⟨by kernel_rfl, by kernel_rfl⟩
theorem ext144 : Extern.findNext Tryz.f144 = none ∧ Extern.find Tryz.f144 = some (Ext.sem .cnt Tryz.f144) := ⟨by kernel_rfl, by kernel_rfl⟩
theorem ext201 : Extern.findNext Tryz.f201 = none ∧ Extern.find Tryz.f201 = some (Ext.sem .idx Tryz.f201) := ⟨by kernel_rfl, by kernel_rfl⟩
theorem mixed : Tryz.prog.follows .mixedOrders = true := by kernel_rfl
set_option maxRecDepth 100000 in
theorem cx_good : cx.Good where
  fn _ _ h := fns_get h
  ext f x F h hF := by
    obtain ⟨hF', _⟩ := fns_get hF
    rcases exts_get h with ⟨rfl, rfl⟩ | ⟨rfl, rfl⟩ | ⟨rfl, rfl⟩ | ⟨rfl, rfl⟩
    · exact (Option.some.inj (Tryz.func94.symm.trans hF')) ▸ ext94
    · exact (Option.some.inj (Tryz.func93.symm.trans hF')) ▸ ext93
    · exact (Option.some.inj (Tryz.func144.symm.trans hF')) ▸ ext144
    · exact (Option.some.inj (Tryz.func201.symm.trans hF')) ▸ ext201
  sm _ _ := rfl
  mixed := mixed

def cellsD (d : DataW Unit) : List AV := (flatD d).getD []
def tab (d : DataW Unit) (e : TypeId) : Blk := .cells ((cellsD d).map some) e true false
/-- The blocks that are known when the call begins: the listed variables, and the two errors behind two of them. -/
noncomputable def H0 (es : Nat → TypeId) : T Blk :=
  (((((((((T.e.set (tab Rows.laid_unicode_utf8_first (es 0)) 0).set (tab Rows.laid_unicode_utf8_acceptRanges (es 1)) 1).set (tab Rows.laid_colonnade_kind_says (es 2)) 2).set
    (tab Rows.laid_internal_strconv_uint64pow10 (es 4)) 4).set (.cells [some (.iface 360 (.ptr 15 0))] (es 5) true false) 5).set (.cells [some (.iface 360 (.ptr 14 0))] (es 6) true false) 6).set
    (tab Rows.laid_math_bits_deBruijn32tab (es 7)) 7).set (tab Rows.laid_math_bits_deBruijn64tab (es 8)) 8).set
    (.cells [some (.str [118, 97, 108, 117, 101, 32, 111, 117, 116, 32, 111, 102, 32, 114, 97, 110, 103, 101])] (es 14) true false) 14).set
    (.cells [some (.str [105, 110, 118, 97, 108, 105, 100, 32, 115, 121, 110, 116, 97, 120])] (es 15) true false) 15
noncomputable def start (es : Nat → TypeId) : AState := .go ((newFrame Tryz.f3 3 [] false).getD ⟨0, .e, 0, [], [], .run, false, none⟩) [] (H0 es) 16
def isTrue : Option AState → Bool
  | some (.done (.bool b) _ _) => b
  | _ => false
theorem ran (es : Nat → TypeId) : isTrue (runA cx 15 (start es)) = true := by kernel_rfl
end
end Go.Proofs.YtepkidlndboakaaGreatDoor
