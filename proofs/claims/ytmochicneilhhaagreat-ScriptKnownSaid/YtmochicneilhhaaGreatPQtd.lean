/- requests: Parse and Id, by the reference; requests: what is packed is parsed as it was, plainly; requests: what is parsed is packed as the same bytes; bytes that are cut, plainly; requests: what the statements share; RequestPuts, RequestReads. -/
import Derived.Test.YtmochicneilhhaaGreatPGo
import Derived.Test.YtmochicneilhhaaGreatPQtc
--SHORT 3
namespace Go.Proofs.YtmochicneilhhaaGreat.rq
open Go.RowKit Go.Proofs.YtmochicneilhhaaGreat.kit Go.Proofs.YtmochicneilhhaaGreat.pk
abbrev rdC (A : Option Addr) (n c at' : Nat) (f : Bool) : List Value := [.slice A n c, .int .i64 at', .bool f]
section
attribute [local irreducible] be de
theorem rdP_k (l : List B8) (s : RQ × Nat × Bool) (q : Pt) : (rdP l s q).1.k = s.1.k := by cases q <;> rfl
def ifP (l : List B8) (k : B8) (q : Pt) (s : RQ × Nat × Bool) : RQ × Nat × Bool := if has k q then rdP l s q else s
theorem ifP_le {l : List B8} {k : B8} {q : Pt} {s : RQ × Nat × Bool} (h : s.2.1 ≤ l.length) : (ifP l k q s).2.1 ≤ l.length := by
  unfold ifP
  split
  · exact rdP_le h q
  · exact h
theorem ifP_k (l : List B8) (k : B8) (q : Pt) (s : RQ × Nat × Bool) : (ifP l k q s).1.k = s.1.k := by
  unfold ifP
  split
  · exact rdP_k l s q
  · rfl
theorem body_if {l : List B8} (h : (hdQ l).1.k.toNat ≤ 8) : bodyQ' l = ifP l (hdQ l).1.k .w (ifP l (hdQ l).1.k .d (ifP l (hdQ l).1.k .p (ifP l (hdQ l).1.k .l (ifP l (hdQ l).1.k .a (hdQ l))))) := fold_parts (rdP l) (hdQ l) h
theorem hdQ_le (l : List B8) : (hdQ l).2.1 ≤ l.length := take_le (take_le (Nat.zero_le _) _ _) _ _
end
attribute [local irreducible] LX CX Yl Gives RetIs Fn
attribute [local irreducible] be de

theorem number_fn (bx : Nat) (A : Option Addr) (n c : Nat) (l : List B8) (at' : Nat) (f : Bool) (k : Nat) (hl : l.length = n) (hn : n ≤ 1000000) (hat : at' ≤ l.length) (hk : k ≤ 8) :
    Fn Tryz.prog 142 [.pointer (some ⟨bx, 0, none⟩), .int .i64 k] [.blk bx (rdC A n c at' f) 211, .ro A n 1 (bvs l)] [bx]
      fun v Lo => v = .int .u64 (rTake l at' f k).1.toNat ∧ Lo = [.blk bx (rdC A n c (rTake l at' f k).2.1 (rTake l at' f k).2.2) 211] := by
  have ht := rTake_fn A n c l at' f k hl (by omega) (by omega) (by omega)
  refine fn_enter Tryz.func142 rfl rfl (by kernel_rfl) rfl ?_
  intro w0
  repeat (first | (refine isx_call ?_; refine k_gcall (ht) ((fun w hm => in_ro (row_ro 1 rfl hm) (in_nil hm) rfl)) rfl rfl rfl rfl rfl rfl ?_) | refine wz ?_ | (refine wzb ?_; intro b_) | fail)
  exact bq_ret (ret_tmp rfl rfl) [_] (Gives.pick [1] (by decide) rfl) rfl ⟨rfl, rfl⟩


theorem rtext_fn (bx : Nat) (A : Option Addr) (n c : Nat) (l : List B8) (at' : Nat) (f : Bool) (hl : l.length = n) (hn : n ≤ 1000000) (hc : n ≤ c ∧ c ≤ 9223372036854775807) (hat : at' ≤ l.length) :
    Fn Tryz.prog 143 [.pointer (some ⟨bx, 0, none⟩)] [.blk bx (rdC A n c at' f) 211, .ro A n 1 (bvs l)] [bx]
      fun v Lo => v = .string (sb (rText l at' f).1) ∧ Lo = [.blk bx (rdC A n c (rText l at' f).2.1 (rText l at' f).2.2) 211] := by
  have ht := rTakeText_fn A n c l at' f hl hc (by omega)
  refine fn_enter Tryz.func143 rfl rfl (by kernel_rfl) rfl ?_
  intro w0
  repeat (first | (refine isx_call ?_; refine k_gcall (ht) ((fun w hm => in_ro (row_ro 1 rfl hm) (in_nil hm) rfl)) rfl rfl rfl rfl rfl rfl ?_) | refine wz ?_ | (refine wzb ?_; intro b_) | fail)
  exact bq_ret (ret_tmp rfl rfl) [_] (Gives.pick [1] (by decide) rfl) rfl ⟨rfl, rfl⟩


set_option maxHeartbeats 16000000 in
theorem rparse_fn (A : Option Addr) (n c : Nat) (l : List B8) (hl : l.length = n) (hn : n ≤ 1000000) (hc : n ≤ c ∧ c ≤ 9223372036854775807) : Fn Tryz.prog 121 [.slice A n c] [.ro A n 1 (bvs l)] [] fun v Lo => v = .tuple #[(parseQ l).1.val, .int .i64 (parseQ l).2] ∧ Lo = [] := by
  subst hl
  refine fn_enter Tryz.func121 rfl rfl (by kernel_rfl) rfl ?_
  intro w0
  refine cx_seq ?_
  refine cx_region ?_
  repeat (first | refine wzo ?_ | (refine wzb ?_; intro b_) | fail)
  generalize b_ = b2
  refine cx_seq ?_
  refine cx_to (α := { u : Unit // badHd l = false }) (fun _ => [(0, none, .slice A l.length c), (2, none, .pointer (some ⟨b2, 0, none⟩))]) (fun _ => [.blk b2 zeroQ.cells 53, .ro A l.length 1 (bvs l)]) ?_ ?_
  · cases l with
    | nil =>
      repeat (first | ((first | (apply lx_gt; exact rfl; exact rfl; exact rfl) | (apply lx_u; exact rfl) | (apply lx_g; exact rfl; exact rfl)); first | (apply isy_bin; exact yl_false (yl_op (E := EV) rfl) (fun _ => rfl)) | fail) | refine wzf ?_ | (refine wzb ?_; intro b_) | fail)
      refine cx_cond rfl (fun h => absurd h (by decide)) (fun _ => ?_)
      repeat (first | refine wz ?_ | (refine wzb ?_; intro b_) | fail)
      exact ⟨⟨(), rfl⟩, ⟨rfl, rfl, trivial⟩, Gives.refl _⟩
    | cons x m =>
      have hx0 : (bvs (x :: m))[mulI 0 1]? = some (bv x) := rfl
      have h0 : decide (((x :: m).length : Int) > 0) = true := decide_eq_true (by rw [List.length_cons]; omega)
      have hpos : 0 < (x :: m).length := by rw [List.length_cons]; omega
      have hkx : (decide ((x.toNat : Int) < 1) || decide ((x.toNat : Int) > 8)) = !known x := by
        rw [known]
        rw [Bool.eq_iff_iff]
        simp
        omega
      repeat (first | ((first | (apply lx_gt; exact rfl; exact rfl; exact rfl) | (apply lx_u; exact rfl) | (apply lx_g; exact rfl; exact rfl)); first | (apply isy_bin; exact yl_true (yl_op (E := EV) rfl) (fun _ => h0)) | (apply isy_indexAddr; exact q_ix 1 rfl rfl rfl rfl rfl) | (apply isy_load; exact q_li 1 rfl rfl rfl rfl hx0) | fail) | refine wzf ?_ | (refine wzb ?_; intro b_) | fail)
      refine cx_cond rfl (fun h => ?_) (fun h => ?_)
      · have hb : badHd (x :: m) = true := by show (!known x) = true; rw [← hkx]; exact h
        rw [parseQ_bad hb]
        repeat (first | refine wz ?_ | (refine wzb ?_; intro b_) | fail)
        exact bq_ret (ret_cell_tmp (E := EV) 0 rfl rfl rfl rfl rfl (fun _ => Nat.le_of_ble_eq_true rfl) rfl) [] (Gives.nil _) rfl ⟨rfl, rfl⟩
      · have hb : badHd (x :: m) = false := by show (!known x) = false; rw [← hkx]; exact h
        repeat (first | refine wz ?_ | (refine wzb ?_; intro b_) | fail)
        exact ⟨⟨(), hb⟩, ⟨rfl, rfl, trivial⟩, Gives.refl _⟩
  rintro ⟨_, hb⟩
  have hk8 := (hd_kind hb).1
  have hbody := body_if hk8
  have hn1 := fun bx => number_fn bx A l.length c l 0 false 1 rfl hn (Nat.zero_le _) (by decide)
  have hn4 := fun bx => number_fn bx A l.length c l (rTake l 0 false 1).2.1 (rTake l 0 false 1).2.2 4 rfl hn (take_le (Nat.zero_le _) _ _) (by decide)
  have hl0 := hdQ_le l
  have hh : hdQ l = (⟨(rTake l 0 false 1).1.setWidth 8, (rTake l (rTake l 0 false 1).2.1 (rTake l 0 false 1).2.2 4).1.setWidth 32, 0#8, 0#16, 0#64, 0#64, 0#8, [], [], 0, 0⟩, (rTake l (rTake l 0 false 1).2.1 (rTake l 0 false 1).2.2 4).2) := rfl
  generalize rTake l 0 false 1 = z1 at hn1 hn4 hh
  generalize rTake l z1.2.1 z1.2.2 4 = z2 at hn4 hh
  repeat (first | ((first | (apply lx_u; exact rfl) | (apply lx_g; exact rfl; exact rfl)); first | (apply isy_convert; exact q_cv uk8 z1.1 rfl rfl rfl rfl) | fail) | (refine isx_call ?_; refine k_call (hn1 _) [0, 2] [0] [1, 2] rfl rfl rfl rfl rfl rfl rfl rfl ?_; rintro v_ Lo_ ⟨rfl, rfl⟩) | refine wz ?_ | (refine wzb ?_; intro b_) | fail)
  repeat (first | ((first | (apply lx_u; exact rfl) | (apply lx_g; exact rfl; exact rfl)); first | (apply isy_convert; exact q_cv uk32 z2.1 rfl rfl rfl rfl) | fail) | (refine isx_call ?_; refine k_call (hn4 _) [0, 2] [0] [1, 2] rfl rfl rfl rfl rfl rfl rfl rfl ?_; rintro v_ Lo_ ⟨rfl, rfl⟩) | refine wzo ?_ | (refine wzb ?_; intro b_) | fail)
  rename_i bx
  generalize b_ = b5
  refine cx_weakL (L' := [.blk b5 (hdQ l).1.cells 53, .blk bx (rdC A l.length c (hdQ l).2.1 (hdQ l).2.2) 211, .blk b2 zeroQ.cells 53, .ro A l.length 1 (bvs l)]) (by rw [hh]; exact Gives.refl _) ?_
  clear hn1 hn4 hh
  have hq1 : (hdQ l).1.k = (hdQ l).1.k := rfl
  generalize hk0 : (hdQ l).1.k = k0 at hbody
  clear hq1
  generalize hdQ l = s0 at hbody hl0 hk0
  obtain ⟨ha, hlx, hp, hd, hw⟩ := has_eq k0
  have hle1 : (ifP l k0 .a s0).2.1 ≤ l.length := ifP_le hl0
  have hkk1 : (ifP l k0 .a s0).1.k = k0 := (ifP_k l k0 .a s0).trans hk0
  refine cx_seq ?_
  refine cx_to (α := { s : RQ × Nat × Bool // s = ifP l k0 .a s0 }) (fun _ => [(2, none, .pointer (some ⟨b2, 0, none⟩)), (4, none, .pointer (some ⟨bx, 0, none⟩)), (5, none, .pointer (some ⟨b5, 0, none⟩))]) (fun s => [.blk b5 s.1.1.cells 53, .blk bx (rdC A l.length c s.1.2.1 s.1.2.2) 211, .blk b2 zeroQ.cells 53, .ro A l.length 1 (bvs l)]) ?_ ?_
  · obtain ⟨r, at', f⟩ := s0
    dsimp only at hl0 hk0 ⊢
    subst hk0
    repeat (first | ((first | (apply lx_u; exact rfl) | (apply lx_g; exact rfl; exact rfl)); first | (apply isy_bin_eql; exact q_beq r.k 1#8 rfl rfl rfl rfl) | (apply isy_bin_eql; exact q_beq r.k 2#8 rfl rfl rfl rfl) | fail) | refine wz ?_ | (refine wzb ?_; intro b_) | fail)
    refine cx_cond rfl (fun h => ?_) (fun h => ?_)
    · rw [← ha] at h
      have e : ifP l r.k .a (r, at', f) = rdP l (r, at', f) .a := if_pos h
      have hm := number_fn bx A l.length c l at' f 8 rfl hn hl0 (by decide)
      repeat (first | (refine isx_call ?_; refine k_call (hm) [1, 3] [1] [0, 2, 3] rfl rfl rfl rfl rfl rfl rfl rfl ?_; rintro v_ Lo_ ⟨rfl, rfl⟩) | (refine isx_store ?_; refine gS 1 rfl rfl rfl rfl rfl rfl rfl rfl rfl rfl ?_) | refine wz ?_ | (refine wzb ?_; intro b_) | fail)
      exact ⟨⟨rdP l (r, at', f) .a, e.symm⟩, ⟨rfl, rfl, rfl, trivial⟩, Gives.pick [1, 0, 2, 3] (by decide) rfl⟩
    · rw [← ha] at h
      have e : ifP l r.k .a (r, at', f) = (r, at', f) := if_neg (by rw [h]; simp)
      repeat (first | refine wz ?_ | (refine wzb ?_; intro b_) | fail)
      exact ⟨⟨(r, at', f), e.symm⟩, ⟨rfl, rfl, rfl, trivial⟩, Gives.refl _⟩
  rintro ⟨s1, hs1⟩
  dsimp only
  rw [← hs1] at hbody hle1 hkk1
  have hl1 := hle1
  have hk1 := hkk1
  clear hs1
  have hle2 : (ifP l k0 .l s1).2.1 ≤ l.length := ifP_le hl1
  have hkk2 : (ifP l k0 .l s1).1.k = k0 := (ifP_k l k0 .l s1).trans hk1
  refine cx_seq ?_
  refine cx_to (α := { s : RQ × Nat × Bool // s = ifP l k0 .l s1 }) (fun _ => [(2, none, .pointer (some ⟨b2, 0, none⟩)), (4, none, .pointer (some ⟨bx, 0, none⟩)), (5, none, .pointer (some ⟨b5, 0, none⟩))]) (fun s => [.blk b5 s.1.1.cells 53, .blk bx (rdC A l.length c s.1.2.1 s.1.2.2) 211, .blk b2 zeroQ.cells 53, .ro A l.length 1 (bvs l)]) ?_ ?_
  · obtain ⟨r, at', f⟩ := s1
    dsimp only at hl1 hk1 ⊢
    subst hk1
    repeat (first | ((first | (apply lx_u; exact rfl) | (apply lx_g; exact rfl; exact rfl)); first | (apply isy_bin_eql; exact q_beq r.k 3#8 rfl rfl rfl rfl) | (apply isy_bin_eql; exact q_beq r.k 4#8 rfl rfl rfl rfl) | (apply isy_bin_eql; exact q_beq r.k 6#8 rfl rfl rfl rfl) | (apply isy_bin_eql; exact q_beq r.k 7#8 rfl rfl rfl rfl) | fail) | refine wz ?_ | (refine wzb ?_; intro b_) | fail)
    refine cx_cond rfl (fun h => ?_) (fun h => ?_)
    · rw [← hlx] at h
      have e : ifP l r.k .l (r, at', f) = rdP l (r, at', f) .l := if_pos h
      have hm := number_fn bx A l.length c l at' f 8 rfl hn hl1 (by decide)
      repeat (first | (refine isx_call ?_; refine k_call (hm) [1, 3] [1] [0, 2, 3] rfl rfl rfl rfl rfl rfl rfl rfl ?_; rintro v_ Lo_ ⟨rfl, rfl⟩) | (refine isx_store ?_; refine gS 1 rfl rfl rfl rfl rfl rfl rfl rfl rfl rfl ?_) | refine wz ?_ | (refine wzb ?_; intro b_) | fail)
      exact ⟨⟨rdP l (r, at', f) .l, e.symm⟩, ⟨rfl, rfl, rfl, trivial⟩, Gives.pick [1, 0, 2, 3] (by decide) rfl⟩
    · rw [← hlx] at h
      have e : ifP l r.k .l (r, at', f) = (r, at', f) := if_neg (by rw [h]; simp)
      repeat (first | refine wz ?_ | (refine wzb ?_; intro b_) | fail)
      exact ⟨⟨(r, at', f), e.symm⟩, ⟨rfl, rfl, rfl, trivial⟩, Gives.refl _⟩
  rintro ⟨s2, hs2⟩
  dsimp only
  rw [← hs2] at hbody hle2 hkk2
  have hl2 := hle2
  have hk2 := hkk2
  clear hs2
  have hle3 : (ifP l k0 .p s2).2.1 ≤ l.length := ifP_le hl2
  have hkk3 : (ifP l k0 .p s2).1.k = k0 := (ifP_k l k0 .p s2).trans hk2
  refine cx_seq ?_
  refine cx_to (α := { s : RQ × Nat × Bool // s = ifP l k0 .p s2 }) (fun _ => [(2, none, .pointer (some ⟨b2, 0, none⟩)), (4, none, .pointer (some ⟨bx, 0, none⟩)), (5, none, .pointer (some ⟨b5, 0, none⟩))]) (fun s => [.blk b5 s.1.1.cells 53, .blk bx (rdC A l.length c s.1.2.1 s.1.2.2) 211, .blk b2 zeroQ.cells 53, .ro A l.length 1 (bvs l)]) ?_ ?_
  · obtain ⟨r, at', f⟩ := s2
    dsimp only at hl2 hk2 ⊢
    subst hk2
    repeat (first | ((first | (apply lx_u; exact rfl) | (apply lx_g; exact rfl; exact rfl)); first | (apply isy_bin_eql; exact q_beq r.k 1#8 rfl rfl rfl rfl) | (apply isy_bin_eql; exact q_beq r.k 6#8 rfl rfl rfl rfl) | fail) | refine wz ?_ | (refine wzb ?_; intro b_) | fail)
    refine cx_cond rfl (fun h => ?_) (fun h => ?_)
    · rw [← hp] at h
      have e : ifP l r.k .p (r, at', f) = rdP l (r, at', f) .p := if_pos h
      have hm := number_fn bx A l.length c l at' f 1 rfl hn hl2 (by decide)
      repeat (first | ((first | (apply lx_u; exact rfl) | (apply lx_g; exact rfl; exact rfl)); first | (apply isy_convert; exact q_cv uk8 _ rfl rfl rfl rfl) | fail) | (refine isx_call ?_; refine k_call (hm) [1, 3] [1] [0, 2, 3] rfl rfl rfl rfl rfl rfl rfl rfl ?_; rintro v_ Lo_ ⟨rfl, rfl⟩) | (refine isx_store ?_; refine gS 1 rfl rfl rfl rfl rfl rfl rfl rfl rfl rfl ?_) | refine wz ?_ | (refine wzb ?_; intro b_) | fail)
      exact ⟨⟨rdP l (r, at', f) .p, e.symm⟩, ⟨rfl, rfl, rfl, trivial⟩, Gives.pick [1, 0, 2, 3] (by decide) rfl⟩
    · rw [← hp] at h
      have e : ifP l r.k .p (r, at', f) = (r, at', f) := if_neg (by rw [h]; simp)
      repeat (first | refine wz ?_ | (refine wzb ?_; intro b_) | fail)
      exact ⟨⟨(r, at', f), e.symm⟩, ⟨rfl, rfl, rfl, trivial⟩, Gives.refl _⟩
  rintro ⟨s3, hs3⟩
  dsimp only
  rw [← hs3] at hbody hle3 hkk3
  have hl3 := hle3
  have hk3 := hkk3
  clear hs3
  have hle4 : (ifP l k0 .d s3).2.1 ≤ l.length := ifP_le hl3
  have hkk4 : (ifP l k0 .d s3).1.k = k0 := (ifP_k l k0 .d s3).trans hk3
  refine cx_seq ?_
  refine cx_to (α := { s : RQ × Nat × Bool // s = ifP l k0 .d s3 }) (fun _ => [(2, none, .pointer (some ⟨b2, 0, none⟩)), (4, none, .pointer (some ⟨bx, 0, none⟩)), (5, none, .pointer (some ⟨b5, 0, none⟩))]) (fun s => [.blk b5 s.1.1.cells 53, .blk bx (rdC A l.length c s.1.2.1 s.1.2.2) 211, .blk b2 zeroQ.cells 53, .ro A l.length 1 (bvs l)]) ?_ ?_
  · obtain ⟨r, at', f⟩ := s3
    dsimp only at hl3 hk3 ⊢
    subst hk3
    repeat (first | ((first | (apply lx_u; exact rfl) | (apply lx_g; exact rfl; exact rfl)); first | (apply isy_bin_eql; exact q_beq r.k 2#8 rfl rfl rfl rfl) | (apply isy_bin_eql; exact q_beq r.k 3#8 rfl rfl rfl rfl) | (apply isy_bin_eql; exact q_beq r.k 5#8 rfl rfl rfl rfl) | (apply isy_bin_eql; exact q_beq r.k 6#8 rfl rfl rfl rfl) | fail) | refine wz ?_ | (refine wzb ?_; intro b_) | fail)
    refine cx_cond rfl (fun h => ?_) (fun h => ?_)
    · rw [← hd] at h
      have e : ifP l r.k .d (r, at', f) = rdP l (r, at', f) .d := if_pos h
      have hm := number_fn bx A l.length c l at' f 2 rfl hn hl3 (by decide)
      repeat (first | ((first | (apply lx_u; exact rfl) | (apply lx_g; exact rfl; exact rfl)); first | (apply isy_convert; exact q_cv uk16 _ rfl rfl rfl rfl) | fail) | (refine isx_call ?_; refine k_call (hm) [1, 3] [1] [0, 2, 3] rfl rfl rfl rfl rfl rfl rfl rfl ?_; rintro v_ Lo_ ⟨rfl, rfl⟩) | (refine isx_store ?_; refine gS 1 rfl rfl rfl rfl rfl rfl rfl rfl rfl rfl ?_) | refine wz ?_ | (refine wzb ?_; intro b_) | fail)
      exact ⟨⟨rdP l (r, at', f) .d, e.symm⟩, ⟨rfl, rfl, rfl, trivial⟩, Gives.pick [1, 0, 2, 3] (by decide) rfl⟩
    · rw [← hd] at h
      have e : ifP l r.k .d (r, at', f) = (r, at', f) := if_neg (by rw [h]; simp)
      repeat (first | refine wz ?_ | (refine wzb ?_; intro b_) | fail)
      exact ⟨⟨(r, at', f), e.symm⟩, ⟨rfl, rfl, rfl, trivial⟩, Gives.refl _⟩
  rintro ⟨s4, hs4⟩
  dsimp only
  rw [← hs4] at hbody hle4 hkk4
  have hl4 := hle4
  have hk4 := hkk4
  clear hs4
  have hle5 : (ifP l k0 .w s4).2.1 ≤ l.length := ifP_le hl4
  have hkk5 : (ifP l k0 .w s4).1.k = k0 := (ifP_k l k0 .w s4).trans hk4
  refine cx_seq ?_
  refine cx_to (α := { s : RQ × Nat × Bool // s = ifP l k0 .w s4 }) (fun _ => [(2, none, .pointer (some ⟨b2, 0, none⟩)), (4, none, .pointer (some ⟨bx, 0, none⟩)), (5, none, .pointer (some ⟨b5, 0, none⟩))]) (fun s => [.blk b5 s.1.1.cells 53, .blk bx (rdC A l.length c s.1.2.1 s.1.2.2) 211, .blk b2 zeroQ.cells 53, .ro A l.length 1 (bvs l)]) ?_ ?_
  · obtain ⟨r, at', f⟩ := s4
    dsimp only at hl4 hk4 ⊢
    subst hk4
    repeat (first | ((first | (apply lx_u; exact rfl) | (apply lx_g; exact rfl; exact rfl)); first | (apply isy_bin_eql; exact q_beq r.k 1#8 rfl rfl rfl rfl) | (apply isy_bin_eql; exact q_beq r.k 5#8 rfl rfl rfl rfl) | fail) | refine wz ?_ | (refine wzb ?_; intro b_) | fail)
    refine cx_cond rfl (fun h => ?_) (fun h => ?_)
    · rw [← hw] at h
      have e : ifP l r.k .w (r, at', f) = rdP l (r, at', f) .w := if_pos h
      obtain ⟨t1, ht1⟩ : ∃ t, t = rTake l at' f 1 := ⟨_, rfl⟩
      obtain ⟨t2, ht2⟩ : ∃ t, t = rText l t1.2.1 t1.2.2 := ⟨_, rfl⟩
      obtain ⟨t3, ht3⟩ : ∃ t, t = rText l t2.2.1 t2.2.2 := ⟨_, rfl⟩
      obtain ⟨t4, ht4⟩ : ∃ t, t = rTake l t3.2.1 t3.2.2 8 := ⟨_, rfl⟩
      obtain ⟨t5, ht5⟩ : ∃ t, t = rTake l t4.2.1 t4.2.2 8 := ⟨_, rfl⟩
      have hq : rdP l (r, at', f) .w = ({ r with so := t1.1.setWidth 8, ky := t2.1, to_ := t3.1, ls := t4.1.toInt, ms := t5.1.toInt }, t5.2) := by subst ht5 ht4 ht3 ht2 ht1; rfl
      have l1 : t1.2.1 ≤ l.length := by rw [ht1]; exact take_le hl4 _ _
      have l2 : t2.2.1 ≤ l.length := by rw [ht2]; exact text_le l1 _
      have l3 : t3.2.1 ≤ l.length := by rw [ht3]; exact text_le l2 _
      have l4 : t4.2.1 ≤ l.length := by rw [ht4]; exact take_le l3 _ _
      have m1 := number_fn bx A l.length c l at' f 1 rfl hn hl4 (by decide)
      have m2 := rtext_fn bx A l.length c l t1.2.1 t1.2.2 rfl hn hc l1
      have m3 := rtext_fn bx A l.length c l t2.2.1 t2.2.2 rfl hn hc l2
      have m4 := number_fn bx A l.length c l t3.2.1 t3.2.2 8 rfl hn l3 (by decide)
      have m5 := number_fn bx A l.length c l t4.2.1 t4.2.2 8 rfl hn l4 (by decide)
      rw [← ht1] at m1
      rw [← ht2] at m2
      rw [← ht3] at m3
      rw [← ht4] at m4
      rw [← ht5] at m5
      rw [hq] at e
      clear hq ht1 ht2 ht3 ht4 ht5
      repeat (first | ((first | (apply lx_u; exact rfl) | (apply lx_g; exact rfl; exact rfl)); first | (apply isy_convert; exact q_cv uk8 t1.1 rfl rfl rfl rfl) | fail) | (refine isx_call ?_; refine k_call (m1) [1, 3] [1] [0, 2, 3] rfl rfl rfl rfl rfl rfl rfl rfl ?_; rintro v_ Lo_ ⟨rfl, rfl⟩) | (refine isx_store ?_; refine gS 1 rfl rfl rfl rfl rfl rfl rfl rfl rfl rfl ?_) | refine wz ?_ | (refine wzb ?_; intro b_) | fail)
      repeat (first | (refine isx_call ?_; refine k_call (m2) [0, 3] [0] [1, 2, 3] rfl rfl rfl rfl rfl rfl rfl rfl ?_; rintro v_ Lo_ ⟨rfl, rfl⟩) | (refine isx_store ?_; refine gS 1 rfl rfl rfl rfl rfl rfl rfl rfl rfl rfl ?_) | refine wz ?_ | (refine wzb ?_; intro b_) | fail)
      repeat (first | (refine isx_call ?_; refine k_call (m3) [0, 3] [0] [1, 2, 3] rfl rfl rfl rfl rfl rfl rfl rfl ?_; rintro v_ Lo_ ⟨rfl, rfl⟩) | (refine isx_store ?_; refine gS 1 rfl rfl rfl rfl rfl rfl rfl rfl rfl rfl ?_) | refine wz ?_ | (refine wzb ?_; intro b_) | fail)
      repeat (first | ((first | (apply lx_u; exact rfl) | (apply lx_g; exact rfl; exact rfl)); first | (apply isy_convert; exact q_cs t4.1 rfl rfl rfl rfl) | fail) | (refine isx_call ?_; refine k_call (m4) [0, 3] [0] [1, 2, 3] rfl rfl rfl rfl rfl rfl rfl rfl ?_; rintro v_ Lo_ ⟨rfl, rfl⟩) | (refine isx_store ?_; refine gS 1 rfl rfl rfl rfl rfl rfl rfl rfl rfl rfl ?_) | refine wz ?_ | (refine wzb ?_; intro b_) | fail)
      repeat (first | ((first | (apply lx_u; exact rfl) | (apply lx_g; exact rfl; exact rfl)); first | (apply isy_convert; exact q_cs t5.1 rfl rfl rfl rfl) | fail) | (refine isx_call ?_; refine k_call (m5) [0, 3] [0] [1, 2, 3] rfl rfl rfl rfl rfl rfl rfl rfl ?_; rintro v_ Lo_ ⟨rfl, rfl⟩) | (refine isx_store ?_; refine gS 1 rfl rfl rfl rfl rfl rfl rfl rfl rfl rfl ?_) | refine wz ?_ | (refine wzb ?_; intro b_) | fail)
      exact ⟨⟨_, e.symm⟩, ⟨rfl, rfl, rfl, trivial⟩, Gives.pick [1, 0, 2, 3] (by decide) rfl⟩
    · rw [← hw] at h
      have e : ifP l r.k .w (r, at', f) = (r, at', f) := if_neg (by rw [h]; simp)
      repeat (first | refine wz ?_ | (refine wzb ?_; intro b_) | fail)
      exact ⟨⟨(r, at', f), e.symm⟩, ⟨rfl, rfl, rfl, trivial⟩, Gives.refl _⟩
  rintro ⟨s5, hs5⟩
  dsimp only
  rw [← hs5] at hbody hle5 hkk5
  have hl5 := hle5
  have hk5 := hkk5
  clear hs5
  obtain ⟨r, at', f⟩ := s5
  dsimp only at *
  have hdone : rDoneN l.length at' f = doneQ l := by rw [doneQ, hbody]
  have hdf := rDone_fn A l.length c at' f
  rw [hdone] at hdf
  have hrf := rright_fn r
  have hr1 : r = (bodyQ' l).1 := by rw [hbody]
  clear hbody
  by_cases hd0 : doneQ l = 0
  · have e0 : (doneQ l != 0) = false := by rw [hd0]; rfl
    cases hr : r.right with
    | false =>
      rw [hr] at hrf
      rw [parseQ_wrong hb hd0 (by rw [← hr1]; exact hr)]
      repeat (first | ((first | (apply lx_gt; exact rfl; exact rfl; exact rfl) | (apply lx_u; exact rfl) | (apply lx_g; exact rfl; exact rfl)); first | (apply isy_bin_neq; exact yl_false (yl_op (E := EV) rfl) (fun _ => e0)) | fail) | (refine isx_call ?_; refine lx_gcallt (hdf) (fun _ hm => in_nil hm) rfl rfl rfl rfl rfl rfl rfl ?_) | refine wzf ?_ | (refine wzb ?_; intro b_) | fail)
      refine cx_cond rfl (fun h => absurd h (by decide)) (fun _ => ?_)
      repeat (first | (refine isx_call ?_; refine lx_gcallt (hrf) (fun _ hm => in_nil hm) rfl rfl rfl rfl rfl rfl rfl ?_) | refine wzf ?_ | (refine wzb ?_; intro b_) | fail)
      refine cx_cond rfl (fun _ => ?_) (fun h => absurd h (by decide))
      repeat (first | refine wz ?_ | (refine wzb ?_; intro b_) | fail)
      exact bq_ret (ret_cell_tmp (E := EV) 2 rfl rfl rfl rfl rfl (fun _ => Nat.le_of_ble_eq_true rfl) rfl) [] (Gives.nil _) rfl ⟨rfl, rfl⟩
    | true =>
      rw [hr] at hrf
      rw [parseQ_ok hb hd0 (by rw [← hr1]; exact hr), ← hr1]
      repeat (first | ((first | (apply lx_gt; exact rfl; exact rfl; exact rfl) | (apply lx_u; exact rfl) | (apply lx_g; exact rfl; exact rfl)); first | (apply isy_bin_neq; exact yl_false (yl_op (E := EV) rfl) (fun _ => e0)) | fail) | (refine isx_call ?_; refine lx_gcallt (hdf) (fun _ hm => in_nil hm) rfl rfl rfl rfl rfl rfl rfl ?_) | refine wzf ?_ | (refine wzb ?_; intro b_) | fail)
      refine cx_cond rfl (fun h => absurd h (by decide)) (fun _ => ?_)
      repeat (first | (refine isx_call ?_; refine lx_gcallt (hrf) (fun _ hm => in_nil hm) rfl rfl rfl rfl rfl rfl rfl ?_) | refine wzf ?_ | (refine wzb ?_; intro b_) | fail)
      refine cx_cond rfl (fun h => absurd h (by decide)) (fun _ => ?_)
      repeat (first | refine wz ?_ | (refine wzb ?_; intro b_) | fail)
      exact bq_ret (ret_cell_tmp (E := EV) 2 rfl rfl rfl rfl rfl (fun _ => Nat.le_of_ble_eq_true rfl) rfl) [] (Gives.nil _) rfl ⟨rfl, rfl⟩
  · have e0 : (doneQ l != 0) = true := by simp [hd0]
    rw [parseQ_done hb hd0]
    repeat (first | ((first | (apply lx_gt; exact rfl; exact rfl; exact rfl) | (apply lx_u; exact rfl) | (apply lx_g; exact rfl; exact rfl)); first | (apply isy_bin_neq; exact yl_true (yl_op (E := EV) rfl) (fun _ => e0)) | fail) | (refine isx_call ?_; refine lx_gcallt (hdf) (fun _ hm => in_nil hm) rfl rfl rfl rfl rfl rfl rfl ?_) | refine wzf ?_ | (refine wzb ?_; intro b_) | fail)
    refine cx_cond rfl (fun _ => ?_) (fun h => absurd h (by decide))
    repeat (first | refine wz ?_ | (refine wzb ?_; intro b_) | fail)
    exact bq_ret (ret_cell_tmp (E := EV) 2 rfl rfl rfl rfl rfl (fun _ => Nat.le_of_ble_eq_true rfl) rfl) [] (Gives.nil _) rfl ⟨rfl, rfl⟩



















end Go.Proofs.YtmochicneilhhaaGreat.rq
namespace Go.Proofs.YtmochicneilhhaaGreat.rq
open Go.RowKit Go.Proofs.YtmochicneilhhaaGreat.kit Go.Proofs.YtmochicneilhhaaGreat.pk
attribute [local irreducible] de be
theorem take_at (p b t : List B8) (k : Nat) (hb : b.length = k) : rTake (p ++ (b ++ t)) p.length false k = (de 0#64 b, p.length + k, false) := by
  rw [rTake, if_neg (by simp; omega), List.drop_left, List.take_left' hb]
theorem take_enc (p t : List B8) (k : Nat) (x : BitVec 64) (hk : k ≤ 8) (hx : x.toNat < 256 ^ k) : rTake (p ++ (be k x ++ t)) p.length false k = (x, p.length + k, false) := by
  rw [take_at p _ t k (be_len k x), de_be k x hk hx]
theorem text_enc (p t s : List B8) (hs : s.length ≤ 65535) : rText (p ++ (txt s ++ t)) p.length false = (s, p.length + (txt s).length, false) := by
  have hn : (BitVec.ofNat 64 s.length).toNat = s.length := by rw [BitVec.toNat_ofNat, Nat.mod_eq_of_lt (by omega)]
  have e : p ++ (txt s ++ t) = p ++ (be 2 (BitVec.ofNat 64 s.length) ++ (s ++ t)) := by rw [txt, List.append_assoc]
  have ht : rTake (p ++ (txt s ++ t)) p.length false 2 = (BitVec.ofNat 64 s.length, p.length + 2, false) := by
    rw [e]
    exact take_enc p _ 2 _ (by decide) (by rw [hn]; show _ < 65536; omega)
  have hd : (p ++ (txt s ++ t)).drop (p.length + 2) = s ++ t := by
    rw [e, ← List.append_assoc, List.drop_left' (by rw [List.length_append, be_len])]
  rw [rText, ht, if_neg (by rw [hn, e]; simp [be_len]; omega)]
  dsimp only
  rw [hn, hd, List.take_left' rfl, txt_len, Nat.add_assoc]
def RQ.upd (r : RQ) (r0 : RQ) : Pt → RQ
  | .a => { r0 with at_ := r.at_ }
  | .l => { r0 with le := r.le }
  | .p => { r0 with pg := r.pg }
  | .d => { r0 with du := r.du }
  | .w => { r0 with so := r.so, ky := r.ky, to_ := r.to_, ls := r.ls, ms := r.ms }
structure RQ.Fits (r : RQ) : Prop where
  ky : r.ky.length ≤ 65535
  to_ : r.to_.length ≤ 65535
  ls : -9223372036854775808 ≤ r.ls ∧ r.ls < 9223372036854775808
  ms : -9223372036854775808 ≤ r.ms ∧ r.ms < 9223372036854775808
theorem toInt_of {n : Int} (h : -9223372036854775808 ≤ n ∧ n < 9223372036854775808) : (BitVec.ofInt 64 n).toInt = n := by
  rw [BitVec.toInt_ofInt]
  exact Int.bmod_eq_of_le (by omega) (by omega)
theorem take_one (p t : List B8) (x : B8) : rTake (p ++ ([x] ++ t)) p.length false 1 = (x.setWidth 64, p.length + 1, false) := by
  have := take_enc p t 1 (x.setWidth 64) (by decide) (by rw [BitVec.toNat_setWidth, Nat.mod_eq_of_lt (by have := x.isLt; omega)]; exact x.isLt)
  rwa [be_one] at this
theorem narrow {w : Nat} (x : BitVec w) (h : w ≤ 64) : (x.setWidth 64).setWidth w = x := by
  apply BitVec.eq_of_toNat_eq
  rw [BitVec.toNat_setWidth, BitVec.toNat_setWidth, Nat.mod_eq_of_lt (Nat.lt_of_lt_of_le x.isLt (Nat.pow_le_pow_right (by decide) h)), Nat.mod_eq_of_lt x.isLt]
theorem step_enc (r r0 : RQ) (p t : List B8) (hr : r.Fits) (q : Pt) : rdP (p ++ (r.encP q ++ t)) (r0, p.length, false) q = (r.upd r0 q, p.length + (r.encP q).length, false) := by
  cases q
  · have := take_enc p t 8 r.at_ (by decide) r.at_.isLt
    simp only [rdP, RQ.encP, RQ.upd, this, be_len]
  · have := take_enc p t 8 r.le (by decide) r.le.isLt
    simp only [rdP, RQ.encP, RQ.upd, this, be_len]
  · have := take_one p t r.pg
    simp only [rdP, RQ.encP, RQ.upd, this, narrow r.pg (by decide)]
    rfl
  · have := take_enc p t 2 (r.du.setWidth 64) (by decide) (by rw [BitVec.toNat_setWidth, Nat.mod_eq_of_lt (by have := r.du.isLt; omega)]; exact r.du.isLt)
    simp only [rdP, RQ.encP, RQ.upd, this, be_len, narrow r.du (by decide)]
  · have e : p ++ (r.encP .w ++ t) = p ++ ([r.so] ++ (txt r.ky ++ (txt r.to_ ++ (be 8 (BitVec.ofInt 64 r.ls) ++ (be 8 (BitVec.ofInt 64 r.ms) ++ t))))) := by simp only [RQ.encP, List.append_assoc]
    have el : p.length + (r.encP .w).length = p.length + 1 + (txt r.ky).length + (txt r.to_).length + 8 + 8 := by simp only [RQ.encP, List.length_append, be_len, List.length_cons, List.length_nil]; omega
    rw [el, e]
    have h1 := take_one p (txt r.ky ++ (txt r.to_ ++ (be 8 (BitVec.ofInt 64 r.ls) ++ (be 8 (BitVec.ofInt 64 r.ms) ++ t)))) r.so
    have a1 : p ++ ([r.so] ++ (txt r.ky ++ (txt r.to_ ++ (be 8 (BitVec.ofInt 64 r.ls) ++ (be 8 (BitVec.ofInt 64 r.ms) ++ t))))) = (p ++ [r.so]) ++ (txt r.ky ++ (txt r.to_ ++ (be 8 (BitVec.ofInt 64 r.ls) ++ (be 8 (BitVec.ofInt 64 r.ms) ++ t)))) := by simp only [List.append_assoc]
    have h2 := text_enc (p ++ [r.so]) (txt r.to_ ++ (be 8 (BitVec.ofInt 64 r.ls) ++ (be 8 (BitVec.ofInt 64 r.ms) ++ t))) r.ky hr.ky
    rw [← a1] at h2
    have a2 : p ++ ([r.so] ++ (txt r.ky ++ (txt r.to_ ++ (be 8 (BitVec.ofInt 64 r.ls) ++ (be 8 (BitVec.ofInt 64 r.ms) ++ t))))) = (p ++ [r.so] ++ txt r.ky) ++ (txt r.to_ ++ (be 8 (BitVec.ofInt 64 r.ls) ++ (be 8 (BitVec.ofInt 64 r.ms) ++ t))) := by simp only [List.append_assoc]
    have h3 := text_enc (p ++ [r.so] ++ txt r.ky) (be 8 (BitVec.ofInt 64 r.ls) ++ (be 8 (BitVec.ofInt 64 r.ms) ++ t)) r.to_ hr.to_
    rw [← a2] at h3
    have a3 : p ++ ([r.so] ++ (txt r.ky ++ (txt r.to_ ++ (be 8 (BitVec.ofInt 64 r.ls) ++ (be 8 (BitVec.ofInt 64 r.ms) ++ t))))) = (p ++ [r.so] ++ txt r.ky ++ txt r.to_) ++ (be 8 (BitVec.ofInt 64 r.ls) ++ (be 8 (BitVec.ofInt 64 r.ms) ++ t)) := by simp only [List.append_assoc]
    have h4 := take_enc (p ++ [r.so] ++ txt r.ky ++ txt r.to_) (be 8 (BitVec.ofInt 64 r.ms) ++ t) 8 (BitVec.ofInt 64 r.ls) (by decide) (BitVec.isLt _)
    rw [← a3] at h4
    have a4 : p ++ ([r.so] ++ (txt r.ky ++ (txt r.to_ ++ (be 8 (BitVec.ofInt 64 r.ls) ++ (be 8 (BitVec.ofInt 64 r.ms) ++ t))))) = (p ++ [r.so] ++ txt r.ky ++ txt r.to_ ++ be 8 (BitVec.ofInt 64 r.ls)) ++ (be 8 (BitVec.ofInt 64 r.ms) ++ t) := by simp only [List.append_assoc]
    have h5 := take_enc (p ++ [r.so] ++ txt r.ky ++ txt r.to_ ++ be 8 (BitVec.ofInt 64 r.ls)) t 8 (BitVec.ofInt 64 r.ms) (by decide) (BitVec.isLt _)
    rw [← a4] at h5
    generalize p ++ ([r.so] ++ (txt r.ky ++ (txt r.to_ ++ (be 8 (BitVec.ofInt 64 r.ls) ++ (be 8 (BitVec.ofInt 64 r.ms) ++ t))))) = l at *
    simp only [List.length_append, List.length_cons, List.length_nil, Nat.zero_add, be_len] at h2 h3 h4 h5
    simp only [rdP, RQ.upd, h1, h2, h3, h4, h5, narrow r.so (by decide), toInt_of hr.ls, toInt_of hr.ms]
theorem fold_enc (r : RQ) (t : List B8) (hr : r.Fits) : ∀ (ps : List Pt) (p : List B8) (r0 : RQ), ps.foldl (rdP (p ++ (ps.flatMap r.encP ++ t))) (r0, p.length, false) = (ps.foldl r.upd r0, p.length + (ps.flatMap r.encP).length, false)
  | [], p, r0 => rfl
  | q :: ps, p, r0 => by
    rw [List.foldl_cons, List.foldl_cons, List.flatMap_cons, List.append_assoc, step_enc r r0 p _ hr q]
    have e : p ++ (r.encP q ++ (ps.flatMap r.encP ++ t)) = (p ++ r.encP q) ++ (ps.flatMap r.encP ++ t) := by rw [List.append_assoc]
    have h := fold_enc r t hr ps (p ++ r.encP q) (r.upd r0 q)
    rw [← e, List.length_append] at h
    rw [h, List.length_append, Nat.add_assoc]
theorem upd_fold (r : RQ) (l : List Pt) : ∀ (r0 : RQ), l.foldl r.upd r0 = ⟨r0.k, r0.id, if l.any (Pt.beq .p) then r.pg else r0.pg, if l.any (Pt.beq .d) then r.du else r0.du, if l.any (Pt.beq .a) then r.at_ else r0.at_, if l.any (Pt.beq .l) then r.le else r0.le,
    if l.any (Pt.beq .w) then r.so else r0.so, if l.any (Pt.beq .w) then r.ky else r0.ky, if l.any (Pt.beq .w) then r.to_ else r0.to_, if l.any (Pt.beq .w) then r.ls else r0.ls, if l.any (Pt.beq .w) then r.ms else r0.ms⟩ := by
  induction l with
  | nil => intro r0; rfl
  | cons q l ih =>
    intro r0
    rw [List.foldl_cons, ih, List.any_cons, List.any_cons, List.any_cons, List.any_cons, List.any_cons]
    cases q <;> simp [RQ.upd, Pt.beq]
theorem head_enc (r : RQ) (t : List B8) : hdQ (r.hd ++ t) = (bareQ r.k r.id, r.hd.length, false) := by
  have e1 : r.hd ++ t = [] ++ ([r.k] ++ (be 4 (r.id.setWidth 64) ++ t)) := by simp only [RQ.hd, List.append_assoc, List.nil_append]
  have h1 := take_one [] (be 4 (r.id.setWidth 64) ++ t) r.k
  rw [← e1] at h1
  have e2 : r.hd ++ t = [r.k] ++ (be 4 (r.id.setWidth 64) ++ t) := by simp only [RQ.hd, List.append_assoc]
  have h2 := take_enc [r.k] t 4 (r.id.setWidth 64) (by decide) (by rw [BitVec.toNat_setWidth, Nat.mod_eq_of_lt (by have := r.id.isLt; omega)]; exact r.id.isLt)
  rw [← e2] at h2
  have h1 : rTake (r.hd ++ t) 0 false 1 = (r.k.setWidth 64, 1, false) := h1
  have h2 : rTake (r.hd ++ t) 1 false 4 = (r.id.setWidth 64, 5, false) := h2
  rw [hdQ, h1]
  dsimp only
  rw [h2, hd_len]
  dsimp only
  rw [narrow r.k (by decide), narrow r.id (by decide)]
  rfl
theorem body_enc (r : RQ) (t : List B8) (hr : r.Fits) : bodyQ' (r.enc ++ t) = (r.only, r.enc.length, false) := by
  have e : r.enc ++ t = r.hd ++ ((pts r.k).flatMap r.encP ++ t) := by rw [RQ.enc, List.append_assoc]
  rw [bodyQ', e, head_enc]
  show (pts r.k).foldl (rdP (r.hd ++ ((pts r.k).flatMap r.encP ++ t))) (bareQ r.k r.id, r.hd.length, false) = _
  rw [fold_enc r t hr, upd_fold, RQ.enc, List.length_append]
  rfl
theorem enc_ne (r : RQ) : ∃ m, r.enc = r.k :: m := ⟨_, rfl⟩
theorem enc_good {r : RQ} (hk : known r.k = true) (t : List B8) : badHd (r.enc ++ t) = false := by
  obtain ⟨m, hm⟩ := enc_ne r
  rw [hm]
  show (!known r.k) = false
  rw [hk]; rfl
theorem done_enc (r : RQ) (t : List B8) (hr : r.Fits) : doneQ (r.enc ++ t) = if t = [] then 0 else 21 := by
  rw [doneQ, body_enc r t hr, rDoneN, if_neg (by simp), List.length_append]
  cases t with
  | nil => rw [if_neg (by simp), if_pos rfl]
  | cons x t => rw [if_pos (by simp), if_neg (by simp)]
theorem right_only {r : RQ} (h : r.right = true) : r.only = r := (RQ.eqB_iff _ _).1 ((right_iff r).1 h).2.2.2.2
theorem parse_enc {r : RQ} (h : r.right = true) (hr : r.Fits) : parseQ r.enc = (r, 0) := by
  have hb := enc_good (right_known h).1 []
  have hd := done_enc r [] hr
  have hbd := body_enc r [] hr
  rw [List.append_nil] at hb hd hbd
  rw [if_pos rfl] at hd
  rw [right_only h] at hbd
  rw [parseQ_ok hb hd (by rw [hbd]; exact h), hbd]
end Go.Proofs.YtmochicneilhhaaGreat.rq
namespace Go.Proofs.YtmochicneilhhaaGreat.rq
open Go.RowKit Go.Proofs.YtmochicneilhhaaGreat.kit Go.Proofs.YtmochicneilhhaaGreat.pk
attribute [local irreducible] de be
theorem take_ok {l : List B8} {at' k : Nat} {f : Bool} (h : (rTake l at' f k).2.2 = false) : f = false ∧ at' + k ≤ l.length ∧ rTake l at' f k = (de 0#64 ((l.drop at').take k), at' + k, false) := by
  unfold rTake at h ⊢
  split at h
  · cases h
  · rename_i hc
    rw [if_neg hc]
    rw [not_or] at hc
    exact ⟨by simpa using hc.1, by omega, rfl⟩
theorem text_ok {l : List B8} {at' : Nat} {f : Bool} (h : (rText l at' f).2.2 = false) : f = false ∧ (rTake l at' f 2).2.2 = false ∧ at' + 2 + (rTake l at' f 2).1.toNat ≤ l.length ∧ rText l at' f = ((l.drop (at' + 2)).take (rTake l at' f 2).1.toNat, at' + 2 + (rTake l at' f 2).1.toNat, false) := by
  unfold rText at h ⊢
  split at h
  · cases h
  · rename_i hc
    rw [if_neg hc]
    rw [not_or] at hc
    have h2 : (rTake l at' f 2).2.2 = false := by simpa using hc.1
    obtain ⟨hf, hk, e⟩ := take_ok h2
    have e1 : (rTake l at' f 2).2.1 = at' + 2 := by rw [e]
    rw [e1] at hc ⊢
    exact ⟨hf, h2, by omega, rfl⟩
theorem step_false {l : List B8} {s : RQ × Nat × Bool} {q : Pt} (h : (rdP l s q).2.2 = false) : s.2.2 = false := by
  obtain ⟨r, a, f⟩ := s
  cases f with
  | false => rfl
  | true => rw [rdP_fail l r a q] at h; cases h
theorem fold_false {l : List B8} : ∀ {ps : List Pt} {s : RQ × Nat × Bool}, (ps.foldl (rdP l) s).2.2 = false → s.2.2 = false
  | [], _, h => h
  | _ :: _, _, h => step_false (fold_false (by rw [List.foldl_cons] at h; exact h))
theorem dn_inj : ∀ (l m : List B8) (a b : Nat), l.length = m.length → dn a l = dn b m → a = b ∧ l = m
  | [], [], _, _, _, h => ⟨h, rfl⟩
  | c :: l, d :: m, a, b, hl, h => by
    obtain ⟨h1, h2⟩ := dn_inj l m (a * 256 + c.toNat) (b * 256 + d.toNat) (by simpa using hl) h
    have hc := c.isLt
    have hd := d.isLt
    have e : c.toNat = d.toNat := by omega
    exact ⟨by omega, by rw [BitVec.eq_of_toNat_eq e, h2]⟩
theorem be_de (l : List B8) (hl : l.length ≤ 8) : be l.length (de 0#64 l) = l := by
  refine (dn_inj _ _ 0 0 (be_len _ _) ?_).2
  have h1 := dn_lt l 0
  have hp : (256 : Nat) ^ l.length ≤ 2 ^ 64 := Nat.le_trans (Nat.pow_le_pow_right (by decide) hl) (by decide)
  rw [dn_be, de_dn l 0#64 0 rfl, Nat.zero_mul, Nat.zero_add, Nat.mod_eq_of_lt (a := dn 0 l) (by omega), Nat.mod_eq_of_lt (by omega)]
/-- what was taken, packed -/
theorem take_dec {l : List B8} {at' k : Nat} {f : Bool} (hk : k ≤ 8) (h : (rTake l at' f k).2.2 = false) : l.drop at' = be k (rTake l at' f k).1 ++ l.drop (rTake l at' f k).2.1 ∧ (rTake l at' f k).1.toNat < 256 ^ k := by
  obtain ⟨_, hle, e⟩ := take_ok h
  have hl : ((l.drop at').take k).length = k := by rw [List.length_take, List.length_drop]; omega
  refine ⟨?_, by have := rTake_lt l at' f k; exact this⟩
  rw [e]
  have hb := be_de ((l.drop at').take k) (by omega)
  rw [hl] at hb
  dsimp only
  rw [hb, ← List.drop_drop, List.take_append_drop]
theorem text_dec {l : List B8} {at' : Nat} {f : Bool} (h : (rText l at' f).2.2 = false) : l.drop at' = txt (rText l at' f).1 ++ l.drop (rText l at' f).2.1 ∧ (rText l at' f).1.length ≤ 65535 := by
  obtain ⟨hf, h2, hk, e⟩ := text_ok h
  obtain ⟨hd, hlt⟩ := take_dec (by decide) h2
  have e3 : (rTake l at' f 2).2.1 = at' + 2 := by rw [(take_ok h2).2.2]
  rw [e3] at hd
  generalize (rTake l at' f 2).1 = x at *
  have hx : x.toNat < 65536 := hlt
  have hl : ((l.drop (at' + 2)).take x.toNat).length = x.toNat := by rw [List.length_take, List.length_drop]; omega
  rw [e]
  dsimp only
  have hn : BitVec.ofNat 64 x.toNat = x := by simp
  refine ⟨?_, by rw [hl]; omega⟩
  rw [txt, hl, hn, hd, List.append_assoc]
  congr 1
  have ed : l.drop (at' + 2 + x.toNat) = (l.drop (at' + 2)).drop x.toNat := by rw [List.drop_drop]
  rw [ed, List.take_append_drop]
theorem be_one' (x : BitVec 64) : be 1 x = [x.setWidth 8] := by unfold be; unfold be; simp
theorem ofInt_toInt (x : BitVec 64) : BitVec.ofInt 64 x.toInt = x := BitVec.ofInt_toInt
theorem step_dec {l : List B8} {s : RQ × Nat × Bool} {q : Pt} (h : (rdP l s q).2.2 = false) : l.drop s.2.1 = (rdP l s q).1.encP q ++ l.drop (rdP l s q).2.1 := by
  cases q
  · exact (take_dec (by decide) h).1
  · exact (take_dec (by decide) h).1
  · have := (take_dec (k := 1) (by decide) h).1
    rw [be_one'] at this
    exact this
  · obtain ⟨h1, h2⟩ := take_dec (k := 2) (by decide) h
    have e : ((rTake l s.2.1 s.2.2 2).1.setWidth 16).setWidth 64 = (rTake l s.2.1 s.2.2 2).1 := wide_id _ h2
    show _ = be 2 (((rTake l s.2.1 s.2.2 2).1.setWidth 16).setWidth 64) ++ _
    rw [e]
    exact h1
  · have h5 : (rTake l (rTake l (rText l (rText l (rTake l s.2.1 s.2.2 1).2.1 (rTake l s.2.1 s.2.2 1).2.2).2.1 (rText l (rTake l s.2.1 s.2.2 1).2.1 (rTake l s.2.1 s.2.2 1).2.2).2.2).2.1 (rText l (rText l (rTake l s.2.1 s.2.2 1).2.1 (rTake l s.2.1 s.2.2 1).2.2).2.1 (rText l (rTake l s.2.1 s.2.2 1).2.1 (rTake l s.2.1 s.2.2 1).2.2).2.2).2.2 8).2.1 (rTake l (rText l (rText l (rTake l s.2.1 s.2.2 1).2.1 (rTake l s.2.1 s.2.2 1).2.2).2.1 (rText l (rTake l s.2.1 s.2.2 1).2.1 (rTake l s.2.1 s.2.2 1).2.2).2.2).2.1 (rText l (rText l (rTake l s.2.1 s.2.2 1).2.1 (rTake l s.2.1 s.2.2 1).2.2).2.1 (rText l (rTake l s.2.1 s.2.2 1).2.1 (rTake l s.2.1 s.2.2 1).2.2).2.2).2.2 8).2.2 8).2.2 = false := h
    have h4 := (take_ok h5).1
    have h3 := (take_ok h4).1
    have h2 := (text_ok h3).1
    have h1 := (text_ok h2).1
    have e1 := (take_dec (k := 1) (by decide) h1).1
    have e2 := (text_dec h2).1
    have e3 := (text_dec h3).1
    have e4 := (take_dec (k := 8) (by decide) h4).1
    have e5 := (take_dec (k := 8) (by decide) h5).1
    rw [be_one'] at e1
    simp only [rdP, RQ.encP, ofInt_toInt, List.append_assoc]
    rw [e1, e2, e3, e4, e5]
theorem toInt_fit (x : BitVec 64) : -9223372036854775808 ≤ x.toInt ∧ x.toInt < 9223372036854775808 := ⟨BitVec.le_toInt x, BitVec.toInt_lt⟩
theorem text_len (l : List B8) (at' : Nat) (f : Bool) : (rText l at' f).1.length ≤ 65535 := by
  cases h : (rText l at' f).2.2 with
  | false => exact (text_dec h).2
  | true =>
    unfold rText at h ⊢
    split
    · exact Nat.zero_le _
    · rename_i hc
      rw [if_neg hc] at h
      cases h
theorem step_fits {l : List B8} {s : RQ × Nat × Bool} (h : s.1.Fits) (q : Pt) : (rdP l s q).1.Fits := by
  obtain ⟨h1, h2, h3, h4⟩ := h
  cases q
  · exact ⟨h1, h2, h3, h4⟩
  · exact ⟨h1, h2, h3, h4⟩
  · exact ⟨h1, h2, h3, h4⟩
  · exact ⟨h1, h2, h3, h4⟩
  · exact ⟨text_len _ _ _, text_len _ _ _, toInt_fit _, toInt_fit _⟩
theorem body_fits (l : List B8) : (bodyQ' l).1.Fits := by
  have key : ∀ (ps : List Pt) (s : RQ × Nat × Bool), s.1.Fits → (ps.foldl (rdP l) s).1.Fits := by
    intro ps
    induction ps with
    | nil => exact fun s h => h
    | cons q ps ih => exact fun s h => ih _ (step_fits h q)
  have hz : -9223372036854775808 ≤ (0 : Int) ∧ (0 : Int) < 9223372036854775808 := ⟨by decide, by decide⟩
  exact key _ _ ⟨Nat.zero_le _, Nat.zero_le _, hz, hz⟩
theorem Pt.ne_beq {q q' : Pt} (h : Pt.beq q q' = false) (l : List B8) (s : RQ × Nat × Bool) : (rdP l s q').1.encP q = s.1.encP q := by
  cases q <;> cases q' <;> first | rfl | (cases h)
theorem fold_keep {l : List B8} {q : Pt} : ∀ {ps : List Pt} {s : RQ × Nat × Bool}, ps.any (Pt.beq q) = false → (ps.foldl (rdP l) s).1.encP q = s.1.encP q
  | [], _, _ => rfl
  | q' :: ps, s, h => by
    rw [List.any_cons, Bool.or_eq_false_iff] at h
    rw [List.foldl_cons, fold_keep h.2, Pt.ne_beq h.1]
def nodupP : List Pt → Bool
  | [] => true
  | q :: ps => !ps.any (Pt.beq q) && nodupP ps
theorem fold_dec {l : List B8} : ∀ {ps : List Pt} {s : RQ × Nat × Bool}, nodupP ps = true → (ps.foldl (rdP l) s).2.2 = false → l.drop s.2.1 = ps.flatMap (ps.foldl (rdP l) s).1.encP ++ l.drop (ps.foldl (rdP l) s).2.1
  | [], _, _, _ => rfl
  | q :: ps, s, hn, h => by
    simp only [nodupP, Bool.and_eq_true, Bool.not_eq_true'] at hn
    rw [List.foldl_cons] at h
    have h1 := step_dec (fold_false h)
    have h2 := fold_dec hn.2 h
    rw [List.foldl_cons, List.flatMap_cons, List.append_assoc, ← h2, fold_keep hn.1]
    exact h1
theorem nodup_pts (k : B8) : nodupP (pts k) = true := by
  unfold pts
  repeat' split
  all_goals rfl
theorem fold_kid {l : List B8} : ∀ (ps : List Pt) (s : RQ × Nat × Bool), (ps.foldl (rdP l) s).1.k = s.1.k ∧ (ps.foldl (rdP l) s).1.id = s.1.id
  | [], _ => ⟨rfl, rfl⟩
  | q :: ps, s => by
    rw [List.foldl_cons]
    obtain ⟨h1, h2⟩ := fold_kid ps (rdP l s q)
    rw [h1, h2]
    cases q <;> exact ⟨rfl, rfl⟩
theorem head_dec {l : List B8} (h : (hdQ l).2.2 = false) : l = (hdQ l).1.hd ++ l.drop (hdQ l).2.1 := by
  have h2 : (rTake l (rTake l 0 false 1).2.1 (rTake l 0 false 1).2.2 4).2.2 = false := h
  have h1 := (take_ok h2).1
  have e1 := (take_dec (k := 1) (by decide) h1).1
  obtain ⟨e2, b2⟩ := take_dec (k := 4) (by decide) h2
  rw [be_one', List.drop_zero] at e1
  have e : ((rTake l (rTake l 0 false 1).2.1 (rTake l 0 false 1).2.2 4).1.setWidth 32).setWidth 64 = (rTake l (rTake l 0 false 1).2.1 (rTake l 0 false 1).2.2 4).1 := wide_id _ b2
  show l = ([(rTake l 0 false 1).1.setWidth 8] ++ be 4 (((rTake l (rTake l 0 false 1).2.1 (rTake l 0 false 1).2.2 4).1.setWidth 32).setWidth 64)) ++ l.drop (rTake l (rTake l 0 false 1).2.1 (rTake l 0 false 1).2.2 4).2.1
  rw [e, List.append_assoc, ← e2, ← e1]
theorem body_dec {l : List B8} (h : (bodyQ' l).2.2 = false) : l = (bodyQ' l).1.enc ++ l.drop (bodyQ' l).2.1 := by
  have h1 : (hdQ l).2.2 = false := fold_false h
  have e1 := head_dec h1
  have e2 := fold_dec (nodup_pts (hdQ l).1.k) (s := hdQ l) h
  obtain ⟨k1, k2⟩ := fold_kid (l := l) (pts (hdQ l).1.k) (hdQ l)
  have ek : (bodyQ' l).1.k = (hdQ l).1.k := k1
  have ei : (bodyQ' l).1.id = (hdQ l).1.id := k2
  have eh : (bodyQ' l).1.hd = (hdQ l).1.hd := by rw [RQ.hd, RQ.hd, ek, ei]
  rw [RQ.enc, eh, ek, List.append_assoc]
  have e3 : l.drop (hdQ l).2.1 = (pts (hdQ l).1.k).flatMap (bodyQ' l).1.encP ++ l.drop (bodyQ' l).2.1 := e2
  rw [← e3]
  exact e1
/-- what is parsed is packed as it stands -/
theorem parse_ok {l : List B8} (h : (parseQ l).2 = 0) : (parseQ l).1.right = true ∧ (parseQ l).1.Fits ∧ l = (parseQ l).1.enc := by
  cases hb : badHd l with
  | true => rw [parseQ_bad hb] at h; cases h
  | false =>
    by_cases hd : doneQ l = 0
    · cases hr : (bodyQ' l).1.right with
      | false => rw [parseQ_wrong hb hd hr] at h; cases h
      | true =>
        rw [parseQ_ok hb hd hr]
        refine ⟨hr, body_fits l, ?_⟩
        have hd' : rDoneN l.length (bodyQ' l).2.1 (bodyQ' l).2.2 = 0 := hd
        cases hf : (bodyQ' l).2.2 with
        | true => rw [hf, rDoneN, if_pos rfl] at hd'; cases hd'
        | false =>
          have e := body_dec hf
          rw [hf, rDoneN, if_neg (by simp)] at hd'
          have hlen : l.length ≤ (bodyQ' l).2.1 := by
            by_cases hl : (bodyQ' l).2.1 < l.length
            · rw [if_pos hl] at hd'; cases hd'
            · omega
          rw [List.drop_eq_nil_of_le hlen, List.append_nil] at e
          exact e
    · rw [parseQ_done hb hd] at h
      exact absurd h hd
theorem enc_le {r : RQ} (h : r.right = true) : r.enc.length ≤ 99 ∧ 5 ≤ r.enc.length := by
  obtain ⟨hky, hto⟩ := right_texts h
  obtain ⟨hk, _⟩ := right_known h
  have hl : r.enc.length = 5 + ((pts r.k).flatMap r.encP).length := by rw [RQ.enc, List.length_append, hd_len]
  have hw := encP_len r hky hto .w
  have ha : (r.encP .a).length = 8 := be_len ..
  have hl2 : (r.encP .l).length = 8 := be_len ..
  have hp : (r.encP .p).length = 1 := rfl
  have hd : (r.encP .d).length = 2 := be_len ..
  have e : ∀ ps : List Pt, (ps.flatMap r.encP).length = (ps.map fun q => (r.encP q).length).sum := fun ps => by
    induction ps with
    | nil => rfl
    | cons q ps ih => rw [List.flatMap_cons, List.length_append, ih, List.map_cons, List.sum_cons]
  rw [e] at hl
  rcases known_cases hk with h | h | h | h | h | h | h | h <;> rw [h] at hl <;> simp [pts, ha, hl2, hp, hd] at hl <;> omega
end Go.Proofs.YtmochicneilhhaaGreat.rq
namespace Go.Proofs.YtmochicneilhhaaGreat.rq
open Go.RowKit Go.Proofs.YtmochicneilhhaaGreat.kit Go.Proofs.YtmochicneilhhaaGreat.pk
abbrev w1 : RQ := ⟨8#8, 7#32, 0#8, 0#16, 0#64, 0#64, 0#8, [], [], 0, 0⟩
abbrev w2 : RQ := ⟨4#8, 1#32, 0#8, 0#16, 0#64, 2#64, 0#8, [], [], 0, 0⟩
abbrev w3 : RQ := ⟨1#8, 1#32, 0#8, 0#16, 0#64, 0#64, 1#8, [97#8], [], 10, 0⟩
attribute [local irreducible] LX CX Yl Gives RetIs Fn
attribute [local irreducible] be de






def few (r : RQ) : Bool := decide ((r.ky.length : Int) ≤ 100) && decide ((r.to_.length : Int) ≤ 100)

































end Go.Proofs.YtmochicneilhhaaGreat.rq
