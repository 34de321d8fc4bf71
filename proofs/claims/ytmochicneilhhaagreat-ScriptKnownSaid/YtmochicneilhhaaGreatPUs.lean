/- scripts: ScriptKnown, from its loop over requests on. scripts: ScriptKnown, from its loop over values on. scripts: ScriptKnown, from its configuration on. scripts: ScriptKnown, from its odd configurations on. scripts: ScriptKnown. -/
import Derived.Test.YtmochicneilhhaaGreatPGo
import Derived.Test.YtmochicneilhhaaGreatPUn
namespace Go.Proofs.YtmochicneilhhaaGreat.sc
open Go.RowKit Go.Proofs.YtmochicneilhhaaGreat.kit Go.Proofs.YtmochicneilhhaaGreat.pk Go.Proofs.YtmochicneilhhaaGreat.rq Go.Proofs.YtmochicneilhhaaGreat.ev Go.Proofs.YtmochicneilhhaaGreat.win
abbrev keys5 : List Value := [.string (sb [97#8]), .string (sb [100#8]), .string (sb [101#8]), .string (sb [97#8, 98#8]), .string (sb [])]
theorem keys5_at {i : Nat} (h : i < 5) : ∃ s, keys5[mulI ((i : Nat) : Int).toNat 1]? = some (.string (sb s)) := by
  have : i = 0 ∨ i = 1 ∨ i = 2 ∨ i = 3 ∨ i = 4 := by omega
  rcases this with rfl | rfl | rfl | rfl | rfl <;> exact ⟨_, rfl⟩
attribute [local irreducible] LX CX Yl Gives RetIs Fn
attribute [local irreducible] be de fr.frm fr.takeF
set_option maxRecDepth 100000 in
set_option maxHeartbeats 8000000 in
theorem known_requests (w0 : World) (b9 : Nat) (d : Cf) (A : Option Addr) (c : Nat) (xs : List MS) (hs : Steps 400 xs) : KCX 8 w0 [(9, none, .pointer (some ⟨b9, 0, none⟩)), (10, none, .slice A xs.length c)] ([.own A xs.length c 47 8 (scells xs), .blk b9 d.cells 34] ++ sbods xs) := by
  refine cx_open rfl ?_
  refine cx_seq_to (α := StSt 64 1 400) (fun x => [(9, none, .pointer (some ⟨b9, 0, none⟩)), (10, none, .slice x.A x.xs.length x.c)]) (fun x => [.own x.A x.xs.length x.c 47 8 (scells x.xs), .blk b9 d.cells 34] ++ sbods x.xs) ?_ ?_
  rotate_left
  · intro x
    have hx := x.hn
    have ho := x.ok
    have hk := known_answers w0 b9 d x.A x.c x.xs ⟨ho.1, by have := ho.2.1; omega, ho.2.2⟩
    unfold KCX tailD at hk
    exact hk
  repeat (first | refine wz ?_ | (refine wzb ?_; intro b_) | fail)
  refine cx_loop (α := StSt 64 1 400) (fun x => [(9, none, .pointer (some ⟨b9, 0, none⟩)), (10, none, .slice x.A x.xs.length x.c), (13, none, .int .i64 x.n)]) (fun x => [.own x.A x.xs.length x.c 47 8 (scells x.xs), .blk b9 d.cells 34] ++ sbods x.xs) (fun x => 64 - x.n) ⟨0, A, c, xs, Nat.zero_le _, hs⟩ ⟨rfl, rfl, rfl, trivial⟩ (Gives.refl _) ?_
  rintro ⟨n, A, c, xs, hn, hs⟩
  dsimp only at hn hs ⊢
  repeat (first | refine wz ?_ | (refine wzb ?_; intro b_) | fail)
  refine cx_cond rfl (fun h => ?_) (fun h => ?_)
  · have hlt : n < 64 := by simp at h; omega
    clear h
    have m8 := remQ n 8
    have m7 := remQ n 7
    have m18 := remQ n 18
    have m17 := remQ n 17
    have m3 := remQ n 3
    have m5 := remQ n 5
    have q8 := quoQ n 8 (by omega)
    have m83 := remQ (n / 8) 3
    have m85 := remQ (n / 8) 5
    obtain ⟨s, hs5⟩ := keys5_at (i := n / 8 % 5) (by omega)
    have l5 : n / 8 % 5 < 5 := by omega
    have l8 : n % 8 < 8 := by omega
    have l7 : n % 7 < 7 := by omega
    have l3 : n % 3 < 3 := by omega
    have l55 : n % 5 < 5 := by omega
    have l83 : n / 8 % 3 < 3 := by omega
    generalize n % 8 = n8 at *
    generalize n % 7 = n7 at *
    generalize n % 18 = n18 at *
    generalize n % 17 = n17 at *
    generalize n % 3 = n3 at *
    generalize n % 5 = n5 at *
    generalize n / 8 % 3 = n83 at *
    generalize n / 8 % 5 = n85 at *
    generalize n / 8 = nh at *
    repeat (first | ((first | (apply lx_u; exact rfl) | (apply lx_g; exact rfl; exact rfl)); first | (apply isy_bin_rem; exact yl_eq (q_rem rfl rfl) (fun _ => congrArg (Value.int .i64) m8)) | (apply isy_bin_rem; exact yl_eq (q_rem rfl rfl) (fun _ => congrArg (Value.int .i64) m7)) | (apply isy_bin_rem; exact yl_eq (q_rem rfl rfl) (fun _ => congrArg (Value.int .i64) m18)) | (apply isy_bin_rem; exact yl_eq (q_rem rfl rfl) (fun _ => congrArg (Value.int .i64) m17)) | (apply isy_bin_rem; exact yl_eq (q_rem rfl rfl) (fun _ => congrArg (Value.int .i64) m3)) | (apply isy_convert; exact q_ci uk8 rfl rfl rfl) | (apply isy_convert; exact q_ci uk32 rfl rfl rfl) | (apply isy_convert; exact q_ci uk16 rfl rfl rfl) | (apply isy_convert; exact q_ci uk64 rfl rfl rfl) | fail) | refine wz ?_ | (refine wzb ?_; intro b_) | fail)
    generalize b_ = b14
    obtain ⟨r, hr⟩ : ∃ r : RQ, (⟨BitVec.ofInt 8 (1 + (n8 : Int)), BitVec.ofInt 32 (W64 ((n : Int) * 5)), BitVec.ofInt 8 (W64 ((n3 : Int) * 32)), BitVec.ofInt 16 (W64 ((n7 : Int) * 43)), BitVec.ofInt 64 (n18 : Int), BitVec.ofInt 64 (n17 : Int), 0#8, [], [], 0, 0⟩ : RQ) = r := ⟨_, rfl⟩
    refine cx_weakL (L' := [.blk b14 r.cells 52, .own A xs.length c 47 8 (scells xs), .blk b9 d.cells 34] ++ sbods xs) (by rw [← hr]; exact Gives.refl _) ?_
    clear hr
    refine cx_to (α := Bool) (fun z => [(9, none, .pointer (some ⟨b9, 0, none⟩)), (10, none, .slice A xs.length c), (13, none, .int .i64 n), (14, none, .pointer (some ⟨b14, 0, none⟩)), (197, none, bv (BitVec.ofInt 8 (1 + (n8 : Int)))), (199, none, .bool z)]) (fun _ => [.blk b14 r.cells 52, .own A xs.length c 47 8 (scells xs), .blk b9 d.cells 34] ++ sbods xs) ?_ ?_
    · refine cx_cond rfl (fun _ => ?_) (fun _ => ?_)
      · repeat (first | refine wz ?_ | (refine wzb ?_; intro b_) | fail)
        exact ⟨_, ⟨rfl, rfl, rfl, rfl, rfl, rfl, trivial⟩, Gives.refl _⟩
      · repeat (first | refine wz ?_ | (refine wzb ?_; intro b_) | fail)
        exact ⟨_, ⟨rfl, rfl, rfl, rfl, rfl, rfl, trivial⟩, Gives.refl _⟩
    intro z
    refine cx_bto (α := RQ) (fun _ => [(9, none, .pointer (some ⟨b9, 0, none⟩)), (10, none, .slice A xs.length c), (13, none, .int .i64 n), (14, none, .pointer (some ⟨b14, 0, none⟩))]) (fun r => [.blk b14 r.cells 52, .own A xs.length c 47 8 (scells xs), .blk b9 d.cells 34] ++ sbods xs) ?_ ?_
    · refine cx_cond rfl (fun _ => ?_) (fun _ => ?_)
      · repeat (first | ((first | (apply lx_u; exact rfl) | (apply lx_g; exact rfl; exact rfl)); first | (apply isy_bin_rem; exact yl_eq (q_rem rfl rfl) (fun _ => congrArg (Value.int .i64) m83)) | (apply isy_bin_rem; exact yl_eq (q_rem rfl rfl) (fun _ => congrArg (Value.int .i64) m85)) | (apply isy_bin_rem; exact yl_eq (q_rem rfl rfl) (fun _ => congrArg (Value.int .i64) m5)) | (apply isy_bin_quo; exact yl_eq (q_quo rfl rfl) (fun _ => congrArg (Value.int .i64) q8)) | (apply isy_convert; exact q_ci uk8 rfl rfl rfl) | (apply isy_indexAddr; exact q_xs rfl rfl rfl rfl) | fail) | (refine isx_load ?_; refine lx_val rfl rfl rfl rfl rfl (yl_loadB (E := EV) 0 rfl rfl rfl rfl hs5 (by first | exact fun _ => rfl | exact fun h => h | exact fun h => (Bool.and_eq_true_iff.1 h).1)) ?_) | refine wz ?_ | (refine wzb ?_; intro b_) | fail)
        exact ⟨⟨r.k, r.id, r.pg, r.du, r.at_, 0#64, BitVec.ofInt 8 (1 + (n83 : Int)), s, r.to_, _, r.ms⟩, ⟨rfl, rfl, rfl, rfl, trivial⟩, Gives.pre [_, _, _, _] [1, 2, 3] (by decide) rfl rfl⟩
      · repeat (first | refine wz ?_ | (refine wzb ?_; intro b_) | fail)
        refine cx_cond rfl (fun _ => ?_) (fun _ => ?_)
        · repeat (first | refine wz ?_ | (refine wzb ?_; intro b_) | fail)
          exact ⟨⟨r.k, r.id, r.pg, r.du, r.at_, 0#64, r.so, r.ky, r.to_, r.ls, r.ms⟩, ⟨rfl, rfl, rfl, rfl, trivial⟩, Gives.refl _⟩
        · repeat (first | refine wz ?_ | (refine wzb ?_; intro b_) | fail)
          exact ⟨⟨r.k, r.id, r.pg, r.du, 0#64, r.le, r.so, r.ky, r.to_, r.ls, r.ms⟩, ⟨rfl, rfl, rfl, rfl, trivial⟩, Gives.refl _⟩
    clear r
    intro r
    have hf := frame_fn r
    have hfr := frames_fn r
    repeat (first | (refine isx_call ?_; (refine isx_call ?_; refine lx_call0 (hf) (fun _ hm => in_nil hm) rfl rfl rfl rfl rfl rfl rfl rfl ?_; rintro v_ Lo_ ⟨A1, c1, rfl, rfl⟩)) | refine wz ?_ | (refine wzb ?_; intro b_) | fail)
    have hle := hs.2.1
    have hyr : ∀ y ∈ [feedM A1 c1 r], y.r.l.length = y.r.n := fun y hy => by obtain rfl := List.mem_singleton.1 hy; rfl
    refine lx_append (E := EV) 3 rfl rfl rfl rfl rfl rfl rfl rfl rfl rfl rfl rfl rfl (news := scells [feedM A1 c1 r]) (fun w hm => row_blk 0 rfl rfl hm) (scells_all _) (by unfold maxLen; omega) (by show (_ + _) * 88 ≤ _; omega) (fun _ _ _ => trivial) ?_
    intro A3 c3
    have hlen : (xs ++ [feedM A1 c1 r]).length = xs.length + 1 := by rw [List.length_append]; rfl
    rw [← scells_app, ← hlen]
    repeat (first | ((first | (apply lx_gt; exact rfl; exact rfl; exact rfl) | (apply lx_u; exact rfl) | (apply lx_g; exact rfl; exact rfl)); first | (apply isy_load; exact q_lr 2 rfl rfl rfl rfl rfl) | fail) | (refine isx_call ?_; refine lx_gcallt (hfr) (fun _ hm => in_nil hm) rfl rfl rfl rfl rfl rfl rfl ?_) | refine wzf ?_ | (refine wzb ?_; intro b_) | fail)
    refine cx_cond rfl (fun h => absurd h (by decide)) (fun _ => ?_)
    repeat (first | refine wz ?_ | (refine wzb ?_; intro b_) | fail)
    refine ⟨⟨n + 1, A3, c3, xs ++ [feedM A1 c1 r], hlt, by have := hs.app hyr rfl; rw [show 400 + 1 * (n + 1) = 400 + 1 * n + 1 by omega]; exact this⟩, ⟨rfl, rfl, slot_int (by dsimp only; omega), trivial⟩, ?_, by dsimp only; omega⟩
    dsimp only
    rw [sbods_app]
    exact Gives.pre [_, _, _, _, _] [3, 4, 1] (by decide) rfl rfl
  · repeat (first | refine wz ?_ | (refine wzb ?_; intro b_) | fail)
    exact ⟨⟨n, A, c, xs, hn, hs⟩, ⟨rfl, rfl, trivial⟩, Gives.refl _⟩
end Go.Proofs.YtmochicneilhhaaGreat.sc
namespace Go.Proofs.YtmochicneilhhaaGreat.sc
open Go.RowKit Go.Proofs.YtmochicneilhhaaGreat.kit Go.Proofs.YtmochicneilhhaaGreat.pk Go.Proofs.YtmochicneilhhaaGreat.rq Go.Proofs.YtmochicneilhhaaGreat.ev Go.Proofs.YtmochicneilhhaaGreat.win
abbrev vals9 : List Value := [.int .i64 0, .int .i64 126, .int .i64 127, .int .i64 128, .int .i64 (-127), .int .i64 (-128), .int .i64 (-129), .int .i64 9223372036854775807, .int .i64 (-9223372036854775808)]
theorem vals9_at {i : Nat} (h : i < 9) : ∃ v, vals9[mulI ((i : Nat) : Int).toNat 1]? = some (.int .i64 v) := by
  have : i = 0 ∨ i = 1 ∨ i = 2 ∨ i = 3 ∨ i = 4 ∨ i = 5 ∨ i = 6 ∨ i = 7 ∨ i = 8 := by omega
  rcases this with rfl | rfl | rfl | rfl | rfl | rfl | rfl | rfl | rfl <;> exact ⟨_, rfl⟩
abbrev opM (o : EOp) : MS := ⟨4#8, 0, ⟨none, 0, 0, []⟩, o, 0#64⟩
abbrev opsM (v : Int) : List MS := [opM ⟨1#8, [100#8], 5, v⟩, opM ⟨1#8, [101#8], v, 1⟩, opM ⟨2#8, [], v, 0⟩, opM ⟨1#8, [97#8, 98#8], 1, v⟩]
attribute [local irreducible] LX CX Yl Gives RetIs Fn
attribute [local irreducible] be de fr.frm fr.takeF
set_option maxRecDepth 100000 in
set_option maxHeartbeats 8000000 in
theorem known_values (w0 : World) (b9 : Nat) (d : Cf) (A : Option Addr) (c : Nat) (xs : List MS) (hs : Steps 300 xs) : KCX 7 w0 [(9, none, .pointer (some ⟨b9, 0, none⟩)), (10, none, .slice A xs.length c)] ([.own A xs.length c 47 8 (scells xs), .blk b9 d.cells 34] ++ sbods xs) := by
  refine cx_open rfl ?_
  refine cx_seq_to (α := StSt 9 4 300) (fun x => [(9, none, .pointer (some ⟨b9, 0, none⟩)), (10, none, .slice x.A x.xs.length x.c)]) (fun x => [.own x.A x.xs.length x.c 47 8 (scells x.xs), .blk b9 d.cells 34] ++ sbods x.xs) ?_ ?_
  rotate_left
  · intro x
    have hx := x.hn
    have ho := x.ok
    have hk := known_requests w0 b9 d x.A x.c x.xs ⟨ho.1, by have := ho.2.1; omega, ho.2.2⟩
    unfold KCX tailD at hk
    exact hk
  repeat (first | refine wz ?_ | (refine wzb ?_; intro b_) | fail)
  generalize b_ = b1
  refine cx_weakL (Gives.blkown (m := 9) (sz := 1) 0 rfl rfl (by decide)) ?_
  refine cx_loop (α := StSt 9 4 300) (fun x => [(9, none, .pointer (some ⟨b9, 0, none⟩)), (10, none, .slice x.A x.xs.length x.c), (148, none, .slice (some ⟨b1, 0, none⟩) 9 9), (149, none, .int .i64 9), (150, none, .int .i64 x.n)]) (fun x => [.own (some ⟨b1, 0, none⟩) 9 9 2 1 vals9, .own x.A x.xs.length x.c 47 8 (scells x.xs), .blk b9 d.cells 34] ++ sbods x.xs) (fun x => 9 - x.n) ⟨0, A, c, xs, Nat.zero_le _, hs⟩ ⟨rfl, rfl, rfl, rfl, rfl, trivial⟩ (Gives.refl _) ?_
  rintro ⟨n, A, c, xs, hn, hs⟩
  dsimp only at hn hs ⊢
  repeat (first | refine wz ?_ | (refine wzb ?_; intro b_) | fail)
  refine cx_cond rfl (fun h => ?_) (fun h => ?_)
  · have hlt : n < 9 := by simp at h; omega
    clear h
    obtain ⟨v, hv⟩ := vals9_at hlt
    have e1 := eOf_fn [100#8] 5 v
    have e2 := eOf_fn [101#8] v 1
    have e3 := eAt_fn v
    have e4 := eOf_fn [97#8, 98#8] 1 v
    have hle := hs.2.1
    have hyr : ∀ y ∈ opsM v, y.r.l.length = y.r.n := fun y hy => by
      simp only [opsM, List.mem_cons, List.not_mem_nil, or_false] at hy
      rcases hy with rfl | rfl | rfl | rfl <;> rfl
    generalize hV : vals9 = V at *
    repeat (first | ((first | (apply lx_u; exact rfl) | (apply lx_g; exact rfl; exact rfl)); first | (apply isy_indexAddr; exact q_ixo 0 rfl rfl rfl rfl rfl) | (apply isy_load; exact q_lio 0 rfl rfl rfl rfl hv) | fail) | (refine isx_call ?_; refine k_gcall (e1) (fun _ hm => in_nil hm) rfl rfl rfl rfl rfl rfl ?_) | (refine isx_call ?_; refine k_gcall (e2) (fun _ hm => in_nil hm) rfl rfl rfl rfl rfl rfl ?_) | (refine isx_call ?_; refine k_gcall (e3) (fun _ hm => in_nil hm) rfl rfl rfl rfl rfl rfl ?_) | (refine isx_call ?_; refine k_gcall (e4) (fun _ hm => in_nil hm) rfl rfl rfl rfl rfl rfl ?_) | refine wz ?_ | (refine wzb ?_; intro b_) | fail)
    refine lx_append (E := EV) 2 rfl rfl rfl rfl rfl rfl rfl rfl rfl rfl rfl rfl rfl (news := scells (opsM v)) (fun w hm => row_blk 0 rfl rfl hm) (scells_all _) (by unfold maxLen; omega) (by show (_ + _) * 88 ≤ _; omega) (fun _ _ _ => trivial) ?_
    intro A3 c3
    have hlen : (xs ++ opsM v).length = xs.length + 4 := by rw [List.length_append]; rfl
    rw [← scells_app, ← hlen]
    repeat (first | refine wz ?_ | (refine wzb ?_; intro b_) | fail)
    refine ⟨⟨n + 1, A3, c3, xs ++ opsM v, hlt, by have := hs.app hyr rfl; rw [show 300 + 4 * (n + 1) = 300 + 4 * n + 4 by omega]; exact this⟩, ⟨rfl, rfl, rfl, rfl, slot_int (by dsimp only; omega), trivial⟩, ?_, by dsimp only; omega⟩
    dsimp only
    rw [sbods_app]
    exact ((((Gives.nilown _ 5 1).trans (Gives.nilown _ 5 1)).trans (Gives.nilown _ 5 1)).trans (Gives.nilown _ 5 1)).trans (Gives.pre [_, _, _, _, _, _, _, _] [5, 6, 7, 0, 1, 2, 3] (by decide) rfl rfl)
  · repeat (first | refine wz ?_ | (refine wzb ?_; intro b_) | fail)
    exact ⟨⟨n, A, c, xs, hn, hs⟩, ⟨rfl, rfl, trivial⟩, Gives.pre [_, _, _] [1, 2] (by decide) rfl rfl⟩
end Go.Proofs.YtmochicneilhhaaGreat.sc
namespace Go.Proofs.YtmochicneilhhaaGreat.sc
open Go.RowKit Go.Proofs.YtmochicneilhhaaGreat.kit Go.Proofs.YtmochicneilhhaaGreat.pk Go.Proofs.YtmochicneilhhaaGreat.rq Go.Proofs.YtmochicneilhhaaGreat.ev Go.Proofs.YtmochicneilhhaaGreat.win
abbrev xs14 (z : Nat × Nat × Nat × Nat) : List MS := [⟨0#8, 0, ⟨none, 0, 0, []⟩, zeroO, 0#64⟩, ⟨8#8, 0, ⟨none, 0, 0, []⟩, zeroO, 0#64⟩, ⟨3#8, 2, ⟨none, 0, 0, []⟩, zeroO, 0#64⟩, ⟨3#8, 3, ⟨none, 0, 0, []⟩, zeroO, 0#64⟩, ⟨2#8, -1, ⟨none, 0, 0, []⟩, zeroO, 0#64⟩, ⟨3#8, 0, ⟨none, 0, 0, []⟩, zeroO, 1#64⟩, ⟨5#8, 0, ⟨some ⟨z.1, 0, none⟩, 1, 1, [1#8]⟩, zeroO, 0#64⟩, ⟨5#8, 1, ⟨none, 0, 0, []⟩, zeroO, 0#64⟩, ⟨6#8, 0, ⟨none, 0, 0, []⟩, zeroO, 255#64⟩, ⟨6#8, 0, ⟨none, 0, 0, []⟩, zeroO, 256#64⟩, ⟨7#8, 0, ⟨none, 0, 0, []⟩, ⟨2#8, [], 1, 0⟩, 0#64⟩, ⟨1#8, 0, ⟨some ⟨z.2.1, 0, none⟩, 15, 15, List.replicate 15 0#8⟩, zeroO, 0#64⟩, ⟨1#8, 0, ⟨some ⟨z.2.2.1, 0, none⟩, 16, 16, List.replicate 16 0#8⟩, zeroO, 0#64⟩, ⟨1#8, 2, ⟨none, 0, 0, []⟩, zeroO, 0#64⟩]
theorem xs14_ok (z : Nat × Nat × Nat × Nat) : Steps 300 (xs14 z) := by
  refine ⟨Nat.le_of_ble_eq_true rfl, Nat.le_of_ble_eq_true rfl, fun y hy => ?_⟩
  simp only [xs14, List.mem_cons, List.not_mem_nil, or_false] at hy
  rcases hy with rfl | rfl | rfl | rfl | rfl | rfl | rfl | rfl | rfl | rfl | rfl | rfl | rfl | rfl <;> rfl
theorem Gives.nils {L : List Ck} (T : TypeId) : ∀ k : Nat, Gives L (List.replicate k (.own none 0 0 T 1 []) ++ L)
  | 0 => Gives.refl _
  | k + 1 => (Gives.nils T k).trans (Gives.nilown _ T 1)
attribute [local irreducible] LX CX Yl Gives RetIs Fn
attribute [local irreducible] be de fr.frm fr.takeF
set_option maxRecDepth 100000 in
set_option maxHeartbeats 16000000 in
theorem known_literals (w0 : World) (b4 : Nat) (C : Cf) : KCX 5 w0 [(4, none, .pointer (some ⟨b4, 0, none⟩))] [.blk b4 C.cells 34] := by
  refine cx_open rfl ?_
  have ho := odd_fn C 8 3
  have ha := eAt_fn 1
  repeat (first | (refine isx_call ?_; (refine isx_call ?_; refine lx_call0 (ho) (fun _ hm => in_nil hm) rfl rfl rfl rfl rfl rfl rfl rfl ?_; rintro v_ Lo_ ⟨d, rfl, rfl⟩)) | refine wz ?_ | (refine wzb ?_; intro b_) | fail)
  generalize b_ = b9
  refine cx_to (α := Nat × Nat × Nat × Nat) (fun z => [(9, none, .pointer (some ⟨b9, 0, none⟩)), (10, none, .slice (some ⟨z.2.2.2, 0, none⟩) 14 14)]) (fun z => [.blk z.2.2.2 (scells (xs14 z)) 47, .blk z.1 (bvs [1#8]) 5, .blk z.2.1 (bvs (List.replicate 15 0#8)) 5, .blk z.2.2.1 (bvs (List.replicate 16 0#8)) 5, .blk b9 d.cells 34]) ?_ ?_
  · refine cx_tree [6, 11, 13, 15, 18] [0, 1, 2, 3, 4, 5, 8, 9, 10, 17] (.alt 6 [7] (.alt 11 [12] (.alt 13 [14] (.alt 15 [16] (.alt 18 [19] .fin .none) .none) (.alt 15 [16] (.alt 13 [14] (.alt 18 [19] .fin .none) .none) .none)) (.alt 13 [14] (.alt 11 [12] (.alt 15 [16] (.alt 18 [19] .fin .none) .none) (.alt 15 [16] (.alt 11 [12] (.alt 18 [19] .fin .none) .none) .none)) (.alt 15 [16] (.alt 11 [12] (.alt 13 [14] (.alt 18 [19] .fin .none) .none) (.alt 13 [14] (.alt 11 [12] (.alt 18 [19] .fin .none) .none) .none)) .none))) (.alt 11 [12] (.alt 6 [7] (.alt 13 [14] (.alt 15 [16] (.alt 18 [19] .fin .none) .none) (.alt 15 [16] (.alt 13 [14] (.alt 18 [19] .fin .none) .none) .none)) (.alt 13 [14] (.alt 6 [7] (.alt 15 [16] (.alt 18 [19] .fin .none) .none) (.alt 15 [16] (.alt 6 [7] (.alt 18 [19] .fin .none) .none) .none)) (.alt 15 [16] (.alt 6 [7] (.alt 13 [14] (.alt 18 [19] .fin .none) .none) (.alt 13 [14] (.alt 6 [7] (.alt 18 [19] .fin .none) .none) .none)) .none))) (.alt 13 [14] (.alt 6 [7] (.alt 11 [12] (.alt 15 [16] (.alt 18 [19] .fin .none) .none) (.alt 15 [16] (.alt 11 [12] (.alt 18 [19] .fin .none) .none) .none)) (.alt 11 [12] (.alt 6 [7] (.alt 15 [16] (.alt 18 [19] .fin .none) .none) (.alt 15 [16] (.alt 6 [7] (.alt 18 [19] .fin .none) .none) .none)) (.alt 15 [16] (.alt 6 [7] (.alt 11 [12] (.alt 18 [19] .fin .none) .none) (.alt 11 [12] (.alt 6 [7] (.alt 18 [19] .fin .none) .none) .none)) .none))) (.alt 15 [16] (.alt 6 [7] (.alt 11 [12] (.alt 13 [14] (.alt 18 [19] .fin .none) .none) (.alt 13 [14] (.alt 11 [12] (.alt 18 [19] .fin .none) .none) .none)) (.alt 11 [12] (.alt 6 [7] (.alt 13 [14] (.alt 18 [19] .fin .none) .none) (.alt 13 [14] (.alt 6 [7] (.alt 18 [19] .fin .none) .none) .none)) (.alt 13 [14] (.alt 6 [7] (.alt 11 [12] (.alt 18 [19] .fin .none) .none) (.alt 11 [12] (.alt 6 [7] (.alt 18 [19] .fin .none) .none) .none)) .none))) .none)))) [] rfl (by kernel_rfl) (by kernel_rfl) (by kernel_rfl) (by kernel_rfl) (Gives.nil _) ?_
    repeat' (first | (refine ⟨Gives.nil _, ?_, ?_, ?_, ?_, trivial⟩) | (refine ⟨Gives.nil _, ?_, ?_, ?_, trivial⟩) | (refine ⟨Gives.nil _, ?_, ?_, trivial⟩) | (refine ⟨Gives.nil _, ?_, trivial⟩) | exact ⟨Gives.nil _, (_, _, _, _), ⟨rfl, rfl, trivial⟩, Gives.pick [0, 1, 2, 3, 4] (by decide) rfl⟩ | exact ⟨Gives.nil _, (_, _, _, _), ⟨rfl, rfl, trivial⟩, Gives.pick [0, 1, 3, 2, 4] (by decide) rfl⟩ | exact ⟨Gives.nil _, (_, _, _, _), ⟨rfl, rfl, trivial⟩, Gives.pick [0, 2, 1, 3, 4] (by decide) rfl⟩ | exact ⟨Gives.nil _, (_, _, _, _), ⟨rfl, rfl, trivial⟩, Gives.pick [0, 2, 3, 1, 4] (by decide) rfl⟩ | exact ⟨Gives.nil _, (_, _, _, _), ⟨rfl, rfl, trivial⟩, Gives.pick [0, 3, 1, 2, 4] (by decide) rfl⟩ | exact ⟨Gives.nil _, (_, _, _, _), ⟨rfl, rfl, trivial⟩, Gives.pick [0, 3, 2, 1, 4] (by decide) rfl⟩ | (first | (refine isx_call ?_; refine k_gcall (ha) (fun _ hm => in_nil hm) rfl rfl rfl rfl rfl rfl ?_) | (refine isx_make ?_; (refine lx_make (E := EV) 15 rfl rfl rfl rfl rfl rfl rfl rfl rfl rfl rfl rfl rfl rfl (by decide) (by decide) (fun b_ => ?_))) | (refine isx_make ?_; (refine lx_make (E := EV) 16 rfl rfl rfl rfl rfl rfl rfl rfl rfl rfl rfl rfl rfl rfl (by decide) (by decide) (fun b_ => ?_))) | refine wz ?_ | (refine wzb ?_; intro b_) | fail))
  · intro z
    have hk := known_values w0 b9 d (some ⟨z.2.2.2, 0, none⟩) 14 (xs14 z) (xs14_ok z)
    unfold KCX tailD at hk
    refine cx_weakL ?_ hk
    refine (Gives.blkown (m := 14) (sz := 8) 0 rfl rfl (by decide)).trans ((Gives.blkown (m := 1) (sz := 1) 1 rfl rfl (by decide)).trans ((Gives.blkown (m := 15) (sz := 1) 2 rfl rfl (by decide)).trans ((Gives.blkown (m := 16) (sz := 1) 3 rfl rfl (by decide)).trans ((Gives.nils 5 11).trans ?_))))
    exact Gives.pick [11, 15, 0, 14, 13, 1, 2, 3, 4, 12, 5, 6, 7, 8, 9, 10] (by decide) rfl
end Go.Proofs.YtmochicneilhhaaGreat.sc
namespace Go.Proofs.YtmochicneilhhaaGreat.sc
open Go.RowKit Go.Proofs.YtmochicneilhhaaGreat.kit Go.Proofs.YtmochicneilhhaaGreat.pk Go.Proofs.YtmochicneilhhaaGreat.rq Go.Proofs.YtmochicneilhhaaGreat.ev Go.Proofs.YtmochicneilhhaaGreat.win
abbrev nums16 : List Value := [.int .i64 (-1), .int .i64 0, .int .i64 1, .int .i64 2, .int .i64 3, .int .i64 8, .int .i64 9, .int .i64 16, .int .i64 17, .int .i64 31, .int .i64 32, .int .i64 64, .int .i64 65, .int .i64 256, .int .i64 257, .int .i64 300]
theorem nums16_at {i : Nat} (h : i < 16) : ∃ v, nums16[mulI ((i : Nat) : Int).toNat 1]? = some (.int .i64 v) := by
  have : i = 0 ∨ i = 1 ∨ i = 2 ∨ i = 3 ∨ i = 4 ∨ i = 5 ∨ i = 6 ∨ i = 7 ∨ i = 8 ∨ i = 9 ∨ i = 10 ∨ i = 11 ∨ i = 12 ∨ i = 13 ∨ i = 14 ∨ i = 15 := by omega
  rcases this with rfl | rfl | rfl | rfl | rfl | rfl | rfl | rfl | rfl | rfl | rfl | rfl | rfl | rfl | rfl | rfl <;> exact ⟨_, rfl⟩
abbrev servM : MS := ⟨3#8, 1, ⟨none, 0, 0, []⟩, zeroO, 0#64⟩
attribute [local irreducible] LX CX Yl Gives RetIs Fn
attribute [local irreducible] be de fr.frm fr.takeF
set_option maxRecDepth 100000 in
set_option maxHeartbeats 16000000 in
theorem known_odd (w0 : World) (b4 b6 : Nat) (C : Cf) : KCX 4 w0 [(4, none, .pointer (some ⟨b4, 0, none⟩)), (6, none, .slice (some ⟨b6, 0, none⟩) 16 16)] [.own (some ⟨b6, 0, none⟩) 16 16 3 1 nums16, .blk b4 C.cells 34] := by
  refine cx_open rfl ?_
  refine cx_seq_to (α := Unit) (fun _ => [(4, none, .pointer (some ⟨b4, 0, none⟩))]) (fun _ => [.blk b4 C.cells 34]) ?_ (fun _ => ?_)
  rotate_left
  · have hk := known_literals w0 b4 C
    unfold KCX tailD at hk
    exact hk
  repeat (first | refine wz ?_ | (refine wzb ?_; intro b_) | fail)
  refine cx_loop (α := { i : Nat // i ≤ 11 }) (fun x => [(4, none, .pointer (some ⟨b4, 0, none⟩)), (6, none, .slice (some ⟨b6, 0, none⟩) 16 16), (7, none, .int .i64 x.1)]) (fun _ => [.own (some ⟨b6, 0, none⟩) 16 16 3 1 nums16, .blk b4 C.cells 34]) (fun x => 11 - x.1) ⟨0, Nat.zero_le _⟩ ⟨rfl, rfl, rfl, trivial⟩ (Gives.refl _) ?_
  rintro ⟨i, hi⟩
  dsimp only
  repeat (first | refine wz ?_ | (refine wzb ?_; intro b_) | fail)
  refine cx_cond rfl (fun h => ?_) (fun h => ?_)
  · have hilt : i < 11 := by simp at h; omega
    clear h
    repeat (first | refine wz ?_ | (refine wzb ?_; intro b_) | fail)
    refine cx_loop (α := { k : Nat // k ≤ 16 }) (fun x => [(4, none, .pointer (some ⟨b4, 0, none⟩)), (6, none, .slice (some ⟨b6, 0, none⟩) 16 16), (7, none, .int .i64 i), (8, none, .int .i64 x.1)]) (fun _ => [.own (some ⟨b6, 0, none⟩) 16 16 3 1 nums16, .blk b4 C.cells 34]) (fun x => 16 - x.1) ⟨0, Nat.zero_le _⟩ ⟨rfl, rfl, rfl, rfl, trivial⟩ (Gives.refl _) ?_
    rintro ⟨k, hk⟩
    dsimp only
    repeat (first | refine wz ?_ | (refine wzb ?_; intro b_) | fail)
    refine cx_cond rfl (fun h => ?_) (fun h => ?_)
    · have hlt : k < 16 := by simp at h; omega
      clear h
      obtain ⟨v, hv⟩ := nums16_at hlt
      have ho := odd_fn C i v
      have hw1 := fun d b => writes_fn d (some ⟨b, 0, none⟩) 1 1 [servM] (BitVec.ofInt 8 (k : Int)) rfl (by decide) (fun y hy => by obtain rfl := List.mem_singleton.1 hy; rfl)
      have hw2 := fun d => writes_fn d none 0 0 [] 0#8 rfl (by decide) (fun y hy => by cases hy)
      repeat (first | refine wz ?_ | (refine wzb ?_; intro b_) | fail)
      refine cx_to (α := Unit) (fun _ => [(4, none, .pointer (some ⟨b4, 0, none⟩)), (6, none, .slice (some ⟨b6, 0, none⟩) 16 16), (7, none, .int .i64 i), (8, none, .int .i64 k), (126, none, .bool false)]) (fun _ => [.own (some ⟨b6, 0, none⟩) 16 16 3 1 nums16, .blk b4 C.cells 34]) ?_ (fun _ => ?_)
      · refine cx_tree [6, 8, 11, 20, 21] [0, 1, 2, 3, 4, 5, 7, 9, 10] (.alt 6 [] (.alt 8 [] (.alt 11 [12, 13, 14, 15, 16, 17, 18, 19] (.alt 20 [] (.alt 21 [22, 23] .fin .none) .none) .none) .none) (.alt 8 [] (.alt 6 [] (.alt 11 [12, 13, 14, 15, 16, 17, 18, 19] (.alt 20 [] (.alt 21 [22, 23] .fin .none) .none) .none) .none) .none)) _ rfl (by kernel_rfl) (by kernel_rfl) (by kernel_rfl) (by kernel_rfl) (Gives.refl _) ?_
        generalize hV : nums16 = V at *
        repeat' (first | (refine ⟨Gives.pick [0, 1] (by decide) rfl, ?_, ?_, trivial⟩) | (refine ⟨Gives.pick [0, 1] (by decide) rfl, ?_, trivial⟩) | (refine ⟨Gives.pick [1, 2] (by decide) rfl, ?_, trivial⟩) | exact ⟨Gives.pick [1, 2] (by decide) rfl, (), ⟨rfl, rfl, rfl, rfl, rfl, trivial⟩, Gives.pick [1, 2] (by decide) rfl⟩ | (first | ((first | (apply lx_gt; exact rfl; exact rfl; exact rfl) | (apply lx_u; exact rfl) | (apply lx_g; exact rfl; exact rfl)); first | (apply isy_indexAddr; exact q_ixo 0 rfl rfl rfl rfl rfl) | (apply isy_load; exact q_lio 0 rfl rfl rfl rfl hv) | (apply isy_indexAddr; exact q_ixo 1 rfl rfl rfl rfl rfl) | (apply isy_load; exact q_lio 1 rfl rfl rfl rfl hv) | (apply isy_convert; exact q_ci uk8 rfl rfl rfl) | fail) | (refine isx_call ?_; (refine isx_call ?_; refine lx_call0 (ho) (fun _ hm => in_nil hm) rfl rfl rfl rfl rfl rfl rfl rfl ?_; rintro v_ Lo_ ⟨d_, rfl, rfl⟩)) | (refine isx_call ?_; refine lx_gcallt (hw1 _ _) ((fun w hm => sts_in ⟨row_blk 0 rfl rfl hm, fun y hy => by obtain rfl := List.mem_singleton.1 hy; exact ⟨Row.nil, Nat.le_refl _, Nat.zero_le _⟩⟩ (in_nil hm) rfl)) rfl rfl rfl rfl rfl rfl rfl ?_) | (refine isx_call ?_; refine lx_gcallt (hw2 _) ((fun w hm => sts_in ⟨Row.nil, fun y hy => by cases hy⟩ (in_nil hm) rfl)) rfl rfl rfl rfl rfl rfl rfl ?_) | refine wzf ?_ | (refine wzb ?_; intro b_) | fail))
      · refine cx_cond rfl (fun h => absurd h (by decide)) (fun _ => ?_)
        repeat (first | refine wz ?_ | (refine wzb ?_; intro b_) | fail)
        exact ⟨⟨k + 1, by omega⟩, ⟨rfl, rfl, rfl, slot_int (by dsimp only; omega), trivial⟩, Gives.refl _, by dsimp only; omega⟩
    · repeat (first | refine wz ?_ | (refine wzb ?_; intro b_) | fail)
      exact ⟨⟨i + 1, by omega⟩, ⟨rfl, rfl, slot_int (by dsimp only; omega), trivial⟩, Gives.refl _, by dsimp only; omega⟩
  · repeat (first | refine wz ?_ | (refine wzb ?_; intro b_) | fail)
    exact ⟨(), ⟨rfl, trivial⟩, Gives.pick [1] (by decide) rfl⟩
end Go.Proofs.YtmochicneilhhaaGreat.sc
namespace Go.Proofs.YtmochicneilhhaaGreat.sc
open Go.RowKit Go.Proofs.YtmochicneilhhaaGreat.kit Go.Proofs.YtmochicneilhhaaGreat.pk Go.Proofs.YtmochicneilhhaaGreat.rq Go.Proofs.YtmochicneilhhaaGreat.ev Go.Proofs.YtmochicneilhhaaGreat.win
structure BtSt (n : Nat) where
  i : Nat
  l : List B8
  A : Option Addr
  c : Nat
  hi : i ≤ 12
  hl : 9 ≤ l.length ∧ l.length = 9 + n % 5 + 8 * i
attribute [local irreducible] LX CX Yl Gives RetIs Fn
attribute [local irreducible] be de fr.frm fr.takeF
set_option maxHeartbeats 4000000 in
theorem known_nums (w0 : World) (b4 : Nat) (C : Cf) : KCX 3 w0 [(4, none, .pointer (some ⟨b4, 0, none⟩))] [.blk b4 C.cells 34] := by
  refine cx_open rfl ?_
  refine cx_seq_to (α := Nat) (fun b6 => [(4, none, .pointer (some ⟨b4, 0, none⟩)), (6, none, .slice (some ⟨b6, 0, none⟩) 16 16)]) (fun b6 => [.own (some ⟨b6, 0, none⟩) 16 16 3 1 nums16, .blk b4 C.cells 34]) ?_ (fun b6 => ?_)
  · repeat (first | refine wz ?_ | (refine wzb ?_; intro b_) | fail)
    exact ⟨_, ⟨rfl, rfl, trivial⟩, Gives.blkown (m := 16) (sz := 1) 0 rfl rfl (by decide)⟩
  · have hk := known_odd w0 b4 b6 C
    unfold KCX tailD at hk
    exact hk
set_option maxHeartbeats 4000000 in
theorem known_base (w0 : World) : KCX 2 w0 [] [] := by
  refine cx_open rfl ?_
  have hr := (read_fn none 0 0 [] [] rfl (by decide) rfl).mono fun _ _ => read_val (l := []) rfl
  generalize cfgQ [] = C at *
  refine cx_seq_to (α := Nat) (fun b4 => [(4, none, .pointer (some ⟨b4, 0, none⟩))]) (fun b4 => [.blk b4 C.cells 34]) ?_ (fun b4 => ?_)
  · repeat (first | (refine isx_call ?_; (refine isx_call ?_; refine lx_call0 (hr) ((fun w hm => in_ro Row.nil (in_nil hm) rfl)) rfl rfl rfl rfl rfl rfl rfl rfl ?_; rintro v_ Lo_ ⟨A1, c1, xs, rfl, hxs, fit, le, rfl⟩)) | refine wz ?_ | (refine wzb ?_; intro b_) | fail)
    exact ⟨_, ⟨rfl, trivial⟩, Gives.left [_] _⟩
  · have hk := known_nums w0 b4 C
    unfold KCX tailD at hk
    exact hk
set_option maxRecDepth 100000 in
set_option maxHeartbeats 8000000 in
theorem known_first (w0 : World) : KCX 1 w0 [] [] := by
  refine cx_open rfl ?_
  refine cx_seq_to (α := Unit) (fun _ => []) (fun _ => []) ?_ (fun _ => ?_)
  rotate_left
  · have hk := known_base w0
    unfold KCX tailD at hk
    exact hk
  repeat (first | refine wz ?_ | (refine wzb ?_; intro b_) | fail)
  refine cx_loop (α := { n : Nat // n ≤ 256 }) (fun x => [(1, none, .int .i64 x.1)]) (fun _ => []) (fun x => 256 - x.1) ⟨0, Nat.zero_le _⟩ ⟨rfl, trivial⟩ (Gives.refl _) ?_
  rintro ⟨n, hn⟩
  dsimp only
  repeat (first | refine wz ?_ | (refine wzb ?_; intro b_) | fail)
  refine cx_cond rfl (fun h => ?_) (fun h => ?_)
  · have hlt : n < 256 := by simp at h; omega
    clear h
    have m5 := remQ n 5
    have m20 := remQ n 20
    have m8 := remQ n 8
    have l5 : n % 5 < 5 := by omega
    have l20 : n % 20 < 20 := by omega
    have hb1 := bytes_fn (n * 7) (9 + n % 5) (by omega) (by omega)
    have hb2 := bytes_fn n 120 (by omega) (by decide)
    repeat (first | ((first | (apply lx_u; exact rfl) | (apply lx_g; exact rfl; exact rfl)); first | (apply isy_bin_rem; exact yl_eq (q_rem rfl rfl) (fun _ => congrArg (Value.int .i64) m5)) | (apply isy_bin_mul; exact yl_eq (q_mul rfl rfl) (fun _ => congrArg (Value.int .i64) ((show (n : Int) * 7 = ((n * 7 : Nat) : Int) by omega)))) | (apply isy_bin_add; exact yl_eq (q_add rfl rfl) (fun _ => congrArg (Value.int .i64) ((show (9 : Int) + ((n % 5 : Nat) : Int) = ((9 + n % 5 : Nat) : Int) by omega)))) | fail) | (refine isx_call ?_; (refine isx_call ?_; refine lx_call0 (hb1) (fun _ hm => in_nil hm) rfl rfl rfl rfl rfl rfl rfl rfl ?_; rintro v_ Lo_ ⟨A0, c0, l0, rfl, hl0, rfl⟩)) | refine wz ?_ | (refine wzb ?_; intro b_) | fail)
    refine cx_loop (α := BtSt n) (fun x => [(1, none, .int .i64 n), (2, none, .slice x.A x.l.length x.c), (3, none, .int .i64 x.i)]) (fun x => [.own x.A x.l.length x.c 5 1 (bvs x.l)]) (fun x => 12 - x.i) ⟨0, l0, A0, c0, Nat.zero_le _, by omega, by omega⟩ ⟨rfl, rfl, rfl, trivial⟩ (Gives.refl _) ?_
    rintro ⟨i, l, A, c, hi, hl⟩
    dsimp only at hi hl ⊢
    repeat (first | refine wz ?_ | (refine wzb ?_; intro b_) | fail)
    refine cx_cond rfl (fun h => ?_) (fun h => ?_)
    · have hilt : i < 12 := by simp at h; omega
      clear h
      repeat (first | ((first | (apply lx_u; exact rfl) | (apply lx_g; exact rfl; exact rfl)); first | (apply isy_convert; exact q_ci uk8 rfl rfl rfl) | fail) | refine wz ?_ | (refine wzb ?_; intro b_) | fail)
      refine lx_weak (Gives.blkown (m := 8) (sz := 1) 0 rfl rfl (by decide)) ?_
      repeat (first | (refine isx_blt ?_; refine lx_appB (E := EV) 1 l [BitVec.ofInt 8 (n : Int), BitVec.ofInt 8 (W64 ((i : Int) * (n : Int))), BitVec.ofInt 8 ((n : Int) + (i : Int)), BitVec.ofInt 8 (i : Int), BitVec.ofInt 8 (W64 (W64 ((n : Int) * 3) + W64 ((i : Int) * 5))), 255#8, 128#8, 127#8] rfl rfl rfl rfl rfl rfl rfl rfl rfl rfl rfl rfl rfl (fun w hm => row_own 0 rfl hm) (by simp only [List.length_append, pk.be_len, pk.txt_len, List.length_cons, List.length_nil]; omega) (fun _ _ _ => trivial) ?_; intro A_ c_) | refine wz ?_ | (refine wzb ?_; intro b_) | fail)
      exact ⟨⟨i + 1, l ++ [BitVec.ofInt 8 (n : Int), BitVec.ofInt 8 (W64 ((i : Int) * (n : Int))), BitVec.ofInt 8 ((n : Int) + (i : Int)), BitVec.ofInt 8 (i : Int), BitVec.ofInt 8 (W64 (W64 ((n : Int) * 3) + W64 ((i : Int) * 5))), 255#8, 128#8, 127#8], A_, c_, hilt, by rw [List.length_append]; show 9 ≤ l.length + 8 ∧ l.length + 8 = _; omega⟩, ⟨rfl, rfl, slot_int (by dsimp only; omega), trivial⟩, Gives.pick [1] (by decide) rfl, by dsimp only; omega⟩
    · have hi12 : i = 12 := by simp at h; omega
      have hl20 : 20 ≤ l.length := by omega
      clear h
      repeat (first | refine wz ?_ | (refine wzb ?_; intro b_) | fail)
      refine lx_fact (fun w hm => own_cap 0 hm rfl) fun hc => ?_
      have hr1 := reads_fn A l.length c l rfl hc
      have hk1 := back_fn A l.length c l rfl hc
      have hr2 := reads_fn A (n % 20) c (l.take (n % 20)) (by rw [List.length_take]; omega) ⟨by omega, hc.2⟩
      by_cases h8 : n % 8 = 0
      · have g8 : (((n % 8 : Nat) : Int) == 0) = true := by rw [h8]; rfl
        repeat (first | ((first | (apply lx_gt; exact rfl; exact rfl; exact rfl) | (apply lx_u; exact rfl) | (apply lx_g; exact rfl; exact rfl)); first | (apply isy_bin_rem; exact yl_eq (q_rem rfl rfl) (fun _ => congrArg (Value.int .i64) m8)) | (apply isy_bin_eql; exact yl_true (yl_op (E := EV) rfl) (fun _ => g8)) | fail) | (refine isx_call ?_; refine lx_gcallt (hr1) ((fun w hm => own_ro 0 hm rfl)) rfl rfl rfl rfl rfl rfl rfl ?_) | (refine isx_call ?_; refine lx_gcallt (hk1) ((fun w hm => own_ro 0 hm rfl)) rfl rfl rfl rfl rfl rfl rfl ?_) | (refine isx_call ?_; (refine isx_call ?_; refine lx_call0 (hb2) (fun _ hm => in_nil hm) rfl rfl rfl rfl rfl rfl rfl rfl ?_; rintro v_ Lo_ ⟨A2, c2, l2, rfl, hl2, rfl⟩)) | refine wzf ?_ | (refine wzb ?_; intro b_) | fail)
        refine lx_fact (fun w hm => own_cap 0 hm rfl) fun hc2 => ?_
        have hk2 := back_fn A2 l2.length c2 l2 rfl hc2
        repeat (first | ((first | (apply lx_gt; exact rfl; exact rfl; exact rfl) | (apply lx_u; exact rfl) | (apply lx_g; exact rfl; exact rfl)); first | (apply isy_bin_rem; exact yl_eq (q_rem rfl rfl) (fun _ => congrArg (Value.int .i64) m20)) | (apply isy_slice; exact q_slh rfl rfl rfl rfl) | fail) | (refine isx_call ?_; refine lx_gcallt (hk2) ((fun w hm => own_ro 0 hm rfl)) rfl rfl rfl rfl rfl rfl rfl ?_) | (refine isx_call ?_; refine lx_gcallt (hr2) ((fun w hm => in_ro (Row.preb (row_own 1 rfl hm) (by omega)) (in_nil hm) rfl)) rfl rfl rfl rfl rfl rfl rfl ?_) | refine wzf ?_ | (refine wzb ?_; intro b_) | fail)
        refine cx_cond rfl (fun h => absurd h (by decide)) (fun _ => ?_)
        repeat (first | refine wz ?_ | (refine wzb ?_; intro b_) | fail)
        exact ⟨⟨n + 1, by omega⟩, ⟨slot_int (by dsimp only; omega), trivial⟩, Gives.nil _, by dsimp only; omega⟩
      · have g8 : (((n % 8 : Nat) : Int) == 0) = false := by rw [beq_eq_false_iff_ne]; omega
        repeat (first | ((first | (apply lx_gt; exact rfl; exact rfl; exact rfl) | (apply lx_u; exact rfl) | (apply lx_g; exact rfl; exact rfl)); first | (apply isy_bin_rem; exact yl_eq (q_rem rfl rfl) (fun _ => congrArg (Value.int .i64) m8)) | (apply isy_bin_eql; exact yl_false (yl_op (E := EV) rfl) (fun _ => g8)) | (apply isy_bin_rem; exact yl_eq (q_rem rfl rfl) (fun _ => congrArg (Value.int .i64) m20)) | (apply isy_slice; exact q_slh rfl rfl rfl rfl) | fail) | (refine isx_call ?_; refine lx_gcallt (hr1) ((fun w hm => own_ro 0 hm rfl)) rfl rfl rfl rfl rfl rfl rfl ?_) | (refine isx_call ?_; refine lx_gcallt (hk1) ((fun w hm => own_ro 0 hm rfl)) rfl rfl rfl rfl rfl rfl rfl ?_) | (refine isx_call ?_; refine lx_gcallt (hr2) ((fun w hm => in_ro (Row.preb (row_own 0 rfl hm) (by omega)) (in_nil hm) rfl)) rfl rfl rfl rfl rfl rfl rfl ?_) | refine wzf ?_ | (refine wzb ?_; intro b_) | fail)
        refine cx_cond rfl (fun h => absurd h (by decide)) (fun _ => ?_)
        repeat (first | refine wz ?_ | (refine wzb ?_; intro b_) | fail)
        exact ⟨⟨n + 1, by omega⟩, ⟨slot_int (by dsimp only; omega), trivial⟩, Gives.nil _, by dsimp only; omega⟩
  · repeat (first | refine wz ?_ | (refine wzb ?_; intro b_) | fail)
    exact ⟨(), trivial, Gives.refl _⟩
set_option maxHeartbeats 4000000 in
theorem known_fn : Fn Tryz.prog 7 [] [] [] fun v Lo => v = .bool true ∧ Lo = [] := by
  refine fn_enter Tryz.func7 rfl rfl (by kernel_rfl) rfl ?_
  intro w0
  refine cx_seq_to (α := Unit) (fun _ => []) (fun _ => []) ?_ (fun _ => ?_)
  · repeat (first | refine wz ?_ | (refine wzb ?_; intro b_) | fail)
    exact ⟨(), trivial, Gives.refl _⟩
  · have hk := known_first w0
    unfold KCX tailD at hk
    exact hk
theorem known_all (W : World) : Calls Tryz.prog 7 #[] W fun e W' => e = .returned (.bool true) ∧ Below W.heap.size W W' := known_fn.yes W (mem0 W)
end Go.Proofs.YtmochicneilhhaaGreat.sc
