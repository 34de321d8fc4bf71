/- 'tidepoollaw04.KeyOrder' returns true for every input, and leaves what it was handed as it was: the given statement, from the walk 'ky.order_all'. No conditions. -/
import Derived.Test.YthmdiopbiiimeaaDoorRows
import Derived.Test.YthmdiopbiiimeaaDoorRd
import Derived.Test.YthmdiopbiiimeaaDoorRl
import Derived.Test.YthmdiopbiiimeaaDoorCards
import Derived.Test.YthmdiopbiiimeaaDoorTie
import Derived.Test.YthmdiopbiiimeaaDoorKoc
namespace Go.Proofs.YthmdiopbiiimeaaDoor.lawKeyOrder
open Go.ChangeShapes Go.WideShapes Go.ChangeAt Go.RowKit Go.Joins
theorem own : ownKnob Tryd.prog.godebug = none := by kernel_rfl
theorem laidOut : laidOutB Tryd.prog = true := by kernel_rfl
set_option maxRecDepth 100000 in
theorem lifted (os : Os) (started : os.Started) (H : Type) (enc : TypeId × Value → H) :
    ReturnsInHanded {} Tryd.checked os 6 .any (fun w args => (Rows.keyOrderSpec.pre enc Tryd.prog Tryd.f6 Rows.keyOrderRow.domain false w args ∧ laidMetH Tryd.prog Rows.keyOrderRow.laid w) ∧ sizedMet enc Tryd.prog Tryd.f6 (OpenSpec.ofChange Rows.keyOrderSpec) false w args) (Rows.keyOrderSpec.post enc Tryd.prog Tryd.f6 false true false false) := by
  refine rih_of (C := Tryd.checked) (X := fun w _ => laidMetH Tryd.prog Rows.keyOrderRow.laid w) (fun _ _ _ hh h => h.of_heap hh) own started (by kernel_rfl) Tryd.func6
    (ChangeSpec.witness_shaped (enc := enc) (C := Tryd.checked) (os := os) (X := fun w _ => laidMetH Tryd.prog Rows.keyOrderRow.laid w) false (World.laidAll Tryd.prog os Rows.keyOrderRow.laid) #[.slice none 0 0, .slice none 0 0, .slice none 0 0, .string .empty, .string .empty] 8 (World.laidAll_os _ _ _)
      (World.shaped_of_ZipB (by kernel_rfl) (by kernel_rfl)) (by kernel_rfl) (by kernel_rfl) (by kernel_rfl)
      (by rw [MakeChecks.laidMetH_plain _ _ _ (by kernel_rfl)]; exact laidMet_laidAll _ (by kernel_rfl) (by kernel_rfl))) ?_
  intro W base args ds gs before hval0 hW hsh
  obtain ⟨m, hm⟩ := maxLen_cell hsh
  have hval : ∀ (j : Nat) t v, Tryd.f6.params[j]? = some t → args[j]? = some v → Value.okWide Tryd.prog W .any base t v := hval0
  have hW' := hW
  obtain ⟨p, q, hA0, hV, rfl, hfz, hnd⟩ := hW
  have hA : DataW.TrodAll enc Tryd.prog W 0 (fun _ => true) true Tryd.f6.params.toList args.toList ds p := hA0
  rw [Tryd.params6] at hA hval
  obtain ⟨v0, vs0, d0, ds0, p0, q0, hargs, rfl, rfl, h0, r0x⟩ := trodAll_cons hA
  obtain ⟨v1, vs1, d1, ds1, p1, q1, rfl, rfl, rfl, h1, r1x⟩ := trodAll_cons r0x
  obtain ⟨v2, vs2, d2, ds2, p2, q2, rfl, rfl, rfl, h2, r2x⟩ := trodAll_cons r1x
  obtain ⟨v3, vs3, d3, ds3, p3, q3, rfl, rfl, rfl, h3, r3x⟩ := trodAll_cons r2x
  obtain ⟨v4, vs4, d4, ds4, p4, q4, rfl, rfl, rfl, h4, r4x⟩ := trodAll_cons r3x
  obtain ⟨rfl, rfl, rfl⟩ := trodAll_nil r4x
  obtain rfl : args = #[v0, v1, v2, v3, v4] := by cases args; simp_all
  obtain ⟨rfl, rfl⟩ := trodVars_none hV
  clear hA0 hval0
  have k0 := h0
  have lt0 : ∀ x ∈ p0, x.block < W.heap.size := by obtain ⟨m, hm⟩ := k0; exact DataW.trod_lt m _ _ _ hm
  have k1 := h1
  have lt1 : ∀ x ∈ p1, x.block < W.heap.size := by obtain ⟨m, hm⟩ := k1; exact DataW.trod_lt m _ _ _ hm
  have k2 := h2
  have lt2 : ∀ x ∈ p2, x.block < W.heap.size := by obtain ⟨m, hm⟩ := k2; exact DataW.trod_lt m _ _ _ hm
  have k3 := h3
  have lt3 : ∀ x ∈ p3, x.block < W.heap.size := by obtain ⟨m, hm⟩ := k3; exact DataW.trod_lt m _ _ _ hm
  have k4 := h4
  have lt4 : ∀ x ∈ p4, x.block < W.heap.size := by obtain ⟨m, hm⟩ := k4; exact DataW.trod_lt m _ _ _ hm
  obtain ⟨x0, e0, w0⟩ := arg_cell (reads_slice (ky.reads_part) Tryd.underlying22 (by kernel_rfl) (by decide)) (one_slice Tryd.underlying22 (hval 0 22 v0 rfl rfl)) h0
  obtain rfl := (List.cons.inj e0).1
  obtain ⟨x1, e1, w1⟩ := arg_cell (reads_ints Tryd.underlying53 (by kernel_rfl) Tryd.underlying2 (by kernel_rfl)) (one_slice Tryd.underlying53 (hval 1 53 v1 rfl rfl)) h1
  obtain rfl := (List.cons.inj e1).1
  obtain ⟨x2, e2, w2⟩ := arg_cell (reads_slice (reads_str Tryd.underlying9 (by kernel_rfl)) Tryd.underlying54 (by kernel_rfl) Nat.one_pos) (one_slice Tryd.underlying54 (hval 2 54 v2 rfl rfl)) h2
  obtain rfl := (List.cons.inj e2).1
  obtain ⟨x3, e3, w3⟩ := arg_cell (reads_str Tryd.underlying9 (by kernel_rfl)) (one_str Tryd.underlying9 (hval 3 9 v3 rfl rfl)) h3
  obtain rfl := (List.cons.inj e3).1
  obtain ⟨x4, e4, w4⟩ := arg_cell (reads_str Tryd.underlying9 (by kernel_rfl)) (one_str Tryd.underlying9 (hval 4 9 v4 rfl rfl)) h4
  obtain rfl := (List.cons.inj e4).1
  refine (ky.order_all m x0 x1 x2 x3 x4 W w0 w1 w2 w3 w4 hm).mono fun e W' ⟨he, bel⟩ => ?_
  subst he
  exact ⟨_, rfl, _, _, _, [], _, [], hW', trodAll_mk1 (shut_bool Tryd.underlying4 _), (trodAll_cons_mk (Below.trod laidOut (by kernel_rfl) (of_decide_eq_true (by kernel_rfl)) k0 bel lt0) (trodAll_cons_mk (Below.trod laidOut (by kernel_rfl) (of_decide_eq_true (by kernel_rfl)) k1 bel lt1) (trodAll_cons_mk (Below.trod laidOut (by kernel_rfl) (of_decide_eq_true (by kernel_rfl)) k2 bel lt2) (trodAll_cons_mk (Below.trod laidOut (by kernel_rfl) (of_decide_eq_true (by kernel_rfl)) k3 bel lt3) (trodAll_cons_mk (Below.trod laidOut (by kernel_rfl) (of_decide_eq_true (by kernel_rfl)) k4 bel lt4) trodAll_mk0))))), rfl, bel.frame _, fun h => by cases h⟩

theorem over : Rows.keyOrderRow.holds Tryd.pinned (OpenSpec.ofChange Rows.keyOrderSpec) :=
  OpenClaim.holds_of_wide 6 Tryd.f6 rfl rfl rfl rfl rfl rfl rfl ⟨rfl, rfl, rfl, rfl, rfl⟩ rfl rfl rfl rfl rfl (by kernel_rfl) Tryd.func6 (by kernel_rfl)
    (of_decide_eq_true (by kernel_rfl)) (by unfold Func.isWrapper; first | (rw [if_pos (by decide +kernel)]; kernel_rfl) | (rw [if_neg (by decide +kernel)]; exact ⟨rfl, rfl⟩))
    (fun os started H enc _ => lifted os started H enc)

/-- THE STATEMENT: the tied card -/
theorem proved : Rows.KeyOrderCardSaid :=
  Claim7.holds_tied_plain_at .later [] [.data, .pinned] true (true, "0d5296082ef7151e8b875763bd7bc5a3faf201e9bab0912f782de28bc1cff2fa") false over (fun _ h => by cases h) (by kernel_rfl) (fun _ h => by cases h) keyOrder_row_tie rfl ⟨rfl, rfl⟩ (by kernel_rfl) rfl
    (fun f fn hf hfn => by
      obtain rfl : f = 6 := Option.some.inj ((show Tryd.prog.funcNamed "tidepool/tidepoollaw04.KeyOrder" = some 6 by kernel_rfl).symm.trans hf) |>.symm
      obtain rfl : fn = Tryd.f6 := (Option.some.inj (Tryd.func6.symm.trans hfn)).symm
      exact ⟨by kernel_rfl, fun j t ht => by
        rw [Tryd.params6] at ht
        have hm : t ∈ [22, 53, 54, 9, 9] := by simpa using Array.mem_of_getElem? ht
        have hall : ([22, 53, 54, 9, 9].all fun u => !Tryd.prog.wantsStandIn u) = true := by kernel_rfl
        exact (show Tryd.prog.wantsStandIn t = false by simpa using List.all_eq_true.1 hall t hm)⟩)
    (by kernel_rfl)
#print axioms proved
end Go.Proofs.YthmdiopbiiimeaaDoor.lawKeyOrder
