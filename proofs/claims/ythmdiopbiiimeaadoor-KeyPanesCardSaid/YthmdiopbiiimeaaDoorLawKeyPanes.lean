/- 'tidepoollaw04.KeyPanes' returns true for every input, and leaves what it was handed as it was: the given statement, from the walk 'ky.panes_all'. No conditions. -/
import Derived.Test.YthmdiopbiiimeaaDoorRows
import Derived.Test.YthmdiopbiiimeaaDoorRd
import Derived.Test.YthmdiopbiiimeaaDoorRl
import Derived.Test.YthmdiopbiiimeaaDoorCards
import Derived.Test.YthmdiopbiiimeaaDoorTie
import Derived.Test.YthmdiopbiiimeaaDoorKrs
namespace Go.Proofs.YthmdiopbiiimeaaDoor.lawKeyPanes
open Go.ChangeShapes Go.WideShapes Go.ChangeAt Go.RowKit Go.Joins
theorem own : ownKnob Tryd.prog.godebug = none := by kernel_rfl
theorem laidOut : laidOutB Tryd.prog = true := by kernel_rfl
set_option maxRecDepth 100000 in
theorem lifted (os : Os) (started : os.Started) (H : Type) (enc : TypeId × Value → H) :
    ReturnsInHanded {} Tryd.checked os 5 .any (fun w args => (Rows.keyPanesSpec.pre enc Tryd.prog Tryd.f5 Rows.keyPanesRow.domain false w args ∧ laidMetH Tryd.prog Rows.keyPanesRow.laid w) ∧ sizedMet enc Tryd.prog Tryd.f5 (OpenSpec.ofChange Rows.keyPanesSpec) false w args) (Rows.keyPanesSpec.post enc Tryd.prog Tryd.f5 false true false false) := by
  refine rih_of (C := Tryd.checked) (X := fun w _ => laidMetH Tryd.prog Rows.keyPanesRow.laid w) (fun _ _ _ hh h => h.of_heap hh) own started (by kernel_rfl) Tryd.func5
    (ChangeSpec.witness_shaped (enc := enc) (C := Tryd.checked) (os := os) (X := fun w _ => laidMetH Tryd.prog Rows.keyPanesRow.laid w) false (World.laidAll Tryd.prog os Rows.keyPanesRow.laid) #[.agg #[.string .empty, .int .i64 0, .int .i64 0], .string .empty] 8 (World.laidAll_os _ _ _)
      (World.shaped_of_ZipB (by kernel_rfl) (by kernel_rfl)) (by kernel_rfl) (by kernel_rfl) (by kernel_rfl)
      (by rw [MakeChecks.laidMetH_plain _ _ _ (by kernel_rfl)]; exact laidMet_laidAll _ (by kernel_rfl) (by kernel_rfl))) ?_
  intro W base args ds gs before hval0 hW hsh
  obtain ⟨m, hm⟩ := maxLen_cell hsh
  have hval : ∀ (j : Nat) t v, Tryd.f5.params[j]? = some t → args[j]? = some v → Value.okWide Tryd.prog W .any base t v := hval0
  have hW' := hW
  obtain ⟨p, q, hA0, hV, rfl, hfz, hnd⟩ := hW
  have hA : DataW.TrodAll enc Tryd.prog W 0 (fun _ => true) true Tryd.f5.params.toList args.toList ds p := hA0
  rw [Tryd.params5] at hA hval
  obtain ⟨v0, vs0, d0, ds0, p0, q0, hargs, rfl, rfl, h0, r0x⟩ := trodAll_cons hA
  obtain ⟨v1, vs1, d1, ds1, p1, q1, rfl, rfl, rfl, h1, r1x⟩ := trodAll_cons r0x
  obtain ⟨rfl, rfl, rfl⟩ := trodAll_nil r1x
  obtain rfl : args = #[v0, v1] := by cases args; simp_all
  obtain ⟨rfl, rfl⟩ := trodVars_none hV
  clear hA0 hval0
  have k0 := h0
  have lt0 : ∀ x ∈ p0, x.block < W.heap.size := by obtain ⟨m, hm⟩ := k0; exact DataW.trod_lt m _ _ _ hm
  have k1 := h1
  have lt1 : ∀ x ∈ p1, x.block < W.heap.size := by obtain ⟨m, hm⟩ := k1; exact DataW.trod_lt m _ _ _ hm
  obtain ⟨c0, rfl, _⟩ := okWide_struct Tryd.underlying44 (hval 0 44 v0 rfl rfl)
  obtain ⟨x0, rfl, w0⟩ := arg_agg (ky.reads_pane) h0
  obtain ⟨x1, e1, w1⟩ := arg_cell (reads_str Tryd.underlying9 (by kernel_rfl)) (one_str Tryd.underlying9 (hval 1 9 v1 rfl rfl)) h1
  obtain rfl := (List.cons.inj e1).1
  refine (ky.panes_all m x0 x1 W w0 w1 hm).mono fun e W' ⟨he, bel⟩ => ?_
  subst he
  exact ⟨_, rfl, _, _, _, [], _, [], hW', trodAll_mk1 (shut_bool Tryd.underlying4 _), (trodAll_cons_mk (Below.trod laidOut (by kernel_rfl) (of_decide_eq_true (by kernel_rfl)) k0 bel lt0) (trodAll_cons_mk (Below.trod laidOut (by kernel_rfl) (of_decide_eq_true (by kernel_rfl)) k1 bel lt1) trodAll_mk0)), rfl, bel.frame _, fun h => by cases h⟩

theorem over : Rows.keyPanesRow.holds Tryd.pinned (OpenSpec.ofChange Rows.keyPanesSpec) :=
  OpenClaim.holds_of_wide 5 Tryd.f5 rfl rfl rfl rfl rfl rfl rfl ⟨rfl, rfl, rfl, rfl, rfl⟩ rfl rfl rfl rfl rfl (by kernel_rfl) Tryd.func5 (by kernel_rfl)
    (of_decide_eq_true (by kernel_rfl)) (by unfold Func.isWrapper; first | (rw [if_pos (by decide +kernel)]; kernel_rfl) | (rw [if_neg (by decide +kernel)]; exact ⟨rfl, rfl⟩))
    (fun os started H enc _ => lifted os started H enc)

/-- THE STATEMENT: the tied card -/
theorem proved : Rows.KeyPanesCardSaid :=
  Claim7.holds_tied_plain_at .later [] [.data, .pinned] true (true, "0d5296082ef7151e8b875763bd7bc5a3faf201e9bab0912f782de28bc1cff2fa") false over (fun _ h => by cases h) (by kernel_rfl) (fun _ h => by cases h) keyPanes_row_tie rfl ⟨rfl, rfl⟩ (by kernel_rfl) rfl
    (fun f fn hf hfn => by
      obtain rfl : f = 5 := Option.some.inj ((show Tryd.prog.funcNamed "tidepool/tidepoollaw04.KeyPanes" = some 5 by kernel_rfl).symm.trans hf) |>.symm
      obtain rfl : fn = Tryd.f5 := (Option.some.inj (Tryd.func5.symm.trans hfn)).symm
      exact ⟨by kernel_rfl, fun j t ht => by
        rw [Tryd.params5] at ht
        have hm : t ∈ [44, 9] := by simpa using Array.mem_of_getElem? ht
        have hall : ([44, 9].all fun u => !Tryd.prog.wantsStandIn u) = true := by kernel_rfl
        exact (show Tryd.prog.wantsStandIn t = false by simpa using List.all_eq_true.1 hall t hm)⟩)
    (by kernel_rfl)
#print axioms proved
end Go.Proofs.YthmdiopbiiimeaaDoor.lawKeyPanes
