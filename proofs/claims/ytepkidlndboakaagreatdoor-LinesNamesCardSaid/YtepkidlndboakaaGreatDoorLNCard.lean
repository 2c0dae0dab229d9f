/-
  LinesNames: THE ROW AND THE CARD, PROVED.
-/
import Derived.Test.YtepkidlndboakaaGreatDoorLNRow
import Derived.Test.YtepkidlndboakaaGreatDoorTie
import Derived.Test.YtepkidlndboakaaGreatDoorCards
namespace Go.Proofs.YtepkidlndboakaaGreatDoor
open Go.ChangeShapes Go.WideShapes Go.ChangeAt Go.RowKit Go.Proofs.YtepkidlndboakaaGreatDoor.Sim
noncomputable section

theorem frame_some : (newFrame Tryz.f3 3 [] false).isSome = true := by kernel_rfl
theorem done_of {s : Option AState} (h : isTrue s = true) : ∃ H nx, s = some (.done (.bool true) H nx) := by
  unfold isTrue at h
  split at h
  · subst h; exact ⟨_, _, rfl⟩
  · cases h
theorem calls_LN {W : World} (h : laidMetH Tryz.prog Rows.linesNamesRow.laid W) : Calls Tryz.prog 3 #[] W fun e w' => e = .returned (.bool true) ∧ Below W.heap.size W w' := by
  obtain ⟨η, es, hh, hg⟩ := laid_start h
  obtain ⟨a, ha⟩ := Option.isSome_iff_exists.1 frame_some
  obtain ⟨H', nx', hr⟩ := done_of (ran es)
  have hs : start es = .go a [] (H0 es) 16 := by
    unfold start
    rw [ha, Option.getD_some]
  rw [hs] at hr
  refine Calls.mono (calls_of_runA (C := cx) cx_good (f0 := 3) (xs := #[]) Tryz.func3 ha hr (by simp [VRs]) hh hg) fun e w' he => ?_
  obtain ⟨η', R, x, rfl, hv, hH⟩ := he
  simp only [VR] at hv
  subst hv
  exact ⟨rfl, hH.below⟩

theorem own : ownKnob Tryz.prog.godebug = none := by kernel_rfl
set_option maxRecDepth 100000 in
theorem lifted (os : Os) (started : os.Started) (H : Type) (enc : TypeId × Value → H) :
    ReturnsInHanded {} Tryz.checked os 3 .any (fun w args => (Rows.linesNamesSpec.pre enc Tryz.prog Tryz.f3 Rows.linesNamesRow.domain false w args ∧ laidMetH Tryz.prog Rows.linesNamesRow.laid w) ∧ sizedMet enc Tryz.prog Tryz.f3 (OpenSpec.ofChange Rows.linesNamesSpec) false w args)
      (Rows.linesNamesSpec.post enc Tryz.prog Tryz.f3 false true false false) := by
  refine returnsInHanded_of_change_and (C := Tryz.checked) (X := fun w _ => laidMetH Tryz.prog Rows.linesNamesRow.laid w) (fun _ _ _ hh h => h.of_heap hh) own started (by kernel_rfl) Tryz.func3
    (ChangeSpec.witness_shaped (enc := enc) (C := Tryz.checked) (os := os) (X := fun w _ => laidMetH Tryz.prog Rows.linesNamesRow.laid w) false (World.laidAll Tryz.prog os Rows.linesNamesRow.laid) #[] 8 (World.laidAll_os _ _ _)
      (World.shaped_of_ZipB (by kernel_rfl) (by kernel_rfl)) (by kernel_rfl) (by kernel_rfl) (by kernel_rfl)
      (by rw [MakeChecks.laidMetH_plain _ _ _ laid_plain]; exact laidMet_laidAll _ (by kernel_rfl) (by kernel_rfl))) ?_
  intro W base args ds gs before hval0 hW _ _ hL _
  have hW' := hW
  obtain ⟨p, q, hA0, hV, rfl, _, _⟩ := hW
  have hA : DataW.TrodAll enc Tryz.prog W 0 (fun _ => true) true Tryz.f3.params.toList args.toList ds p := hA0
  rw [Tryz.params3] at hA
  obtain ⟨rfl, rfl, rfl⟩ : args = #[] ∧ ds = [] ∧ p = [] := by
    obtain ⟨al⟩ := args
    cases al with
    | nil =>
      cases ds with
      | nil => exact ⟨rfl, rfl, hA⟩
      | cons d ds => exact hA.elim
    | cons a al => exact hA.elim
  obtain ⟨rfl, rfl⟩ := trodVars_none hV
  refine (calls_LN hL).mono fun e W' ⟨he, hw⟩ => ?_
  subst he
  exact ⟨_, rfl, _, _, _, [], [], [], hW', trodAll_mk1 (shut_bool Tryz.underlying4 true), rfl, rfl, hw.frame _, fun h => by cases h⟩

theorem holds : Rows.LinesNamesSaid :=
  OpenClaim.holds_of_wide 3 Tryz.f3 rfl rfl rfl rfl rfl rfl rfl ⟨rfl, rfl, rfl, rfl, rfl⟩ rfl rfl rfl rfl rfl (by kernel_rfl) Tryz.func3 (by kernel_rfl)
    (of_decide_eq_true (by kernel_rfl)) (by unfold Func.isWrapper; rw [if_neg (by decide +kernel)]; exact ⟨rfl, rfl⟩)
    (fun os started H enc _ => lifted os started H enc)
theorem card_holds : Rows.LinesNamesCardSaid :=
  Claim7.holds_tied_plain_at .later [] [.data, .data, .data, .data, .sentinel, .sentinel, .data, .pinned] true (true, "ad28dc5ad8366787b93111b2d07387ffe1005479fc615679830abf16b9d3649e") true holds (fun _ h => by cases h) (by kernel_rfl) (fun _ h => by cases h) linesNames_row_tie rfl ⟨rfl, rfl⟩ (by kernel_rfl) rfl
    (fun f fn hf hfn => by
      obtain rfl : f = 3 := Option.some.inj ((show Tryz.prog.funcNamed "colonnade/colonnadelaw25.LinesNames" = some 3 by kernel_rfl).symm.trans hf) |>.symm
      obtain rfl : fn = Tryz.f3 := (Option.some.inj (Tryz.func3.symm.trans hfn)).symm
      exact ⟨by kernel_rfl, fun j t ht => by
        rw [Tryz.params3] at ht
        simp at ht⟩)
    (by kernel_rfl)
end
end Go.Proofs.YtepkidlndboakaaGreatDoor
