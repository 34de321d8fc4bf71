/- scripts: a request read. -/
import Derived.Test.YtmochicneilhhaaGreatPGo
import Derived.Test.YtmochicneilhhaaGreatPQta
import Derived.Test.YtmochicneilhhaaGreatPTb
namespace Go.Proofs.YtmochicneilhhaaGreat.sc
open Go.RowKit Go.Proofs.YtmochicneilhhaaGreat.pk Go.Proofs.YtmochicneilhhaaGreat.rq
section
variable {P : Program} {n : Nat} {M : Me} {Q : Post} {t : Fr} {L : List Ck}
theorem yl_arrS {E : Env P} {p c1 c2 : Option Bool} {dst : Option Tmp} {T e : TypeId} {X Y : Operand} {ty : TypeId} {pos : String} {after : Array Edge} {guard : Option (Nat × Bool)} {cs : Array Value} {κ : IntKind} {iv : Int} {m : Nat} {j : TyI} {v : Value}
    (hx : ov t X = some (c1, .agg cs)) (hy : ov t Y = some (c2, .int κ iv)) (hT : tyOf E.f T = .array m e) (he : E.f e = some j) (hv : evPart E.f e cs.toList (iv.toNat * j.size) = some v) (hi : 0 ≤ iv ∧ iv < m) (h1 : cb p = true → cb c1 = true) (h2 : cb p = true → cb c2 = true) :
    Yl P n t L p ⟨dst, .index T X Y, ty, pos, after, guard⟩ v := fun hp M a w hf hm => by
  have hu := run_underlying (P := P) (tyOf_array hT) w
  have hs := E.size he w
  have hr := run_part he hv w
  unfold execOp
  refine run_v ?_
  simp [hf.ov hx (h1 hp), hf.ov hy (h2 hp), Instr.index, asIntOf, hu, hi, hs, hr]
end
abbrev ptsL : List (List B8) := [[], [97#8, 112#8, 119#8], [97#8, 100#8], [108#8, 100#8], [108#8], [100#8, 119#8], [108#8, 112#8, 100#8], [108#8], []]
abbrev ptsV : List Value := [.string (sb []), .string (sb [97#8, 112#8, 119#8]), .string (sb [97#8, 100#8]), .string (sb [108#8, 100#8]), .string (sb [108#8]), .string (sb [100#8, 119#8]), .string (sb [108#8, 112#8, 100#8]), .string (sb [108#8]), .string (sb [])]
theorem pts_ex (i : Nat) (h : i < 9) : ∃ s, ptsL[i]? = some s ∧ evPart EV.f 9 ptsV (i * 1) = some (.string (sb s)) := by
  have : i = 0 ∨ i = 1 ∨ i = 2 ∨ i = 3 ∨ i = 4 ∨ i = 5 ∨ i = 6 ∨ i = 7 ∨ i = 8 := by omega
  rcases this with rfl | rfl | rfl | rfl | rfl | rfl | rfl | rfl | rfl <;> exact ⟨_, rfl, rfl⟩
attribute [local irreducible] LX CX Yl Gives RetIs Fn
theorem parts_fn (i : Nat) (s : List B8) (h : ptsL[i]? = some s) : Fn Tryz.prog 124 [.int .u8 i] [] [] fun v Lo => v = .string (sb s) ∧ Lo = [] := by
  have hi : i < 9 := (List.getElem?_eq_some_iff.1 h).1
  obtain ⟨s', h1, h2⟩ := pts_ex i hi
  obtain rfl : s' = s := Option.some.inj (h1.symm.trans h)
  refine fn_enter Tryz.func124 rfl rfl (by kernel_rfl) rfl ?_
  intro w0
  repeat (first | ((first | (apply lx_u; exact rfl) | (apply lx_g; exact rfl; exact rfl)); first | exact yl_arrS (E := EV) rfl rfl rfl rfl h2 (by omega) (by first | exact fun _ => rfl | exact fun h => h | exact fun h => (Bool.and_eq_true_iff.1 h).1) (by first | exact fun _ => rfl | exact fun h => h | exact fun h => (Bool.and_eq_true_iff.1 h).1) | fail) | refine wz ?_ | (refine wzb ?_; intro b_) | fail)
  exact bq_ret (ret_tmp rfl rfl) [] (Gives.nil _) rfl ⟨rfl, rfl⟩
/-- which panes three bytes tell -/
def panesQ (q : RQ) (a x y : Nat) : RQ :=
  if a % 3 = 0 then { q with so := 1#8, ky := keyQ x, ls := small y }
  else if a % 3 = 1 then { q with so := 2#8, ky := edgeQ x, to_ := edgeQ y }
  else { q with so := 3#8, ls := small x, ms := small y }
set_option maxRecDepth 100000 in
set_option maxHeartbeats 4000000 in
theorem panes_fn (b bx : Nat) (k : Int) {A : Option Addr} {l : List B8} (r : Rd A l) (q : RQ) (hl : l.length ≤ 9223372036854775807) : Fn Tryz.prog 125 [.pointer (some ⟨b, 0, none⟩), .pointer (some ⟨bx, 0, none⟩)] [r.blk b k, .blk bx q.cells 52, .ro A l.length 1 (bvs l)] [b, bx] fun v Lo => v = .tuple #[] ∧ Lo = [(r.go 3).blk b k, .blk bx (panesQ q (at_ l r.v) (at_ l (r.v + 1)) (at_ l (r.v + 2))).cells 52] := by
  have h1 : Fn Tryz.prog 65 [.pointer (some ⟨b, 0, none⟩), .int .i64 (3 : Nat)] [r.blk b k, .ro A l.length 1 (bvs l)] [b] fun v Lo => v = .int .i64 (at_ l r.v % 3 : Nat) ∧ Lo = [(r.go 1).blk b k] := by_fn b k r 3 (by decide) hl
  have hk := key_fn b k (r.go 1) hl
  have he1 := edge_fn b k (r.go 1) hl
  have he2 := edge_fn b k (r.go 2) hl
  have hs1 := small_fn b k (r.go 1) hl
  have hs2 := small_fn b k (r.go 2) hl
  have e : ∀ m, (r.go m).nx = r.go (m + 1) := fun _ => rfl
  rw [e, r.go_v] at hk he1 he2 hs1 hs2
  have hm := Nat.mod_lt (at_ l r.v) (show 0 < 3 by decide)
  clear e
  unfold panesQ
  generalize at_ l (r.v + 1) = x at *
  generalize at_ l (r.v + 2) = y at *
  generalize at_ l r.v % 3 = a at *
  generalize r.go 3 = r3 at *
  generalize r.go 2 = r2 at *
  generalize r.go 1 = r1 at *
  have ha : a = 0 ∨ a = 1 ∨ a = 2 := by omega
  rcases ha with rfl | rfl | rfl
  · rw [if_pos rfl]
    refine fn_enter Tryz.func125 rfl rfl (by kernel_rfl) rfl ?_; intro w0
    repeat (first | ((first | (apply lx_gt; exact rfl; exact rfl; exact rfl) | (apply lx_u; exact rfl) | (apply lx_g; exact rfl; exact rfl)); first | (apply isy_convert; exact q_ci uk8 rfl rfl rfl) | (apply isy_load; exact q_lv 1 rfl rfl rfl rfl rfl) | (apply isy_bin_eql; exact yl_true (yl_op (E := EV) rfl) (fun _ => rfl)) | fail) | (refine isx_call ?_; refine k_call (h1) [0, 2] [0] [1, 2] rfl rfl rfl rfl rfl rfl rfl rfl ?_; rintro v_ Lo_ ⟨rfl, rfl⟩) | (refine isx_store ?_; refine gS 1 rfl rfl rfl rfl rfl rfl rfl rfl rfl rfl ?_) | refine wzf ?_ | (refine wzb ?_; intro b_) | fail)
    refine cx_cond rfl (fun _ => ?_) (fun h => absurd h (by decide))
    repeat (first | (refine isx_call ?_; refine k_call (hk) [0, 2] [0] [1, 2] rfl rfl rfl rfl rfl rfl rfl rfl ?_; rintro v_ Lo_ ⟨rfl, rfl⟩) | (refine isx_call ?_; refine k_call (hs2) [0, 2] [0] [1, 2] rfl rfl rfl rfl rfl rfl rfl rfl ?_; rintro v_ Lo_ ⟨rfl, rfl⟩) | (refine isx_store ?_; refine gS 1 rfl rfl rfl rfl rfl rfl rfl rfl rfl rfl ?_) | refine wz ?_ | (refine wzb ?_; intro b_) | fail)
    exact bq_end (ret_none rfl) [_, _] (Gives.pick [0, 1] (by decide) rfl) rfl ⟨rfl, rfl⟩
  · rw [if_neg (by decide), if_pos rfl]
    refine fn_enter Tryz.func125 rfl rfl (by kernel_rfl) rfl ?_; intro w0
    repeat (first | ((first | (apply lx_gt; exact rfl; exact rfl; exact rfl) | (apply lx_u; exact rfl) | (apply lx_g; exact rfl; exact rfl)); first | (apply isy_convert; exact q_ci uk8 rfl rfl rfl) | (apply isy_load; exact q_lv 1 rfl rfl rfl rfl rfl) | (apply isy_bin_eql; exact yl_false (yl_op (E := EV) rfl) (fun _ => rfl)) | fail) | (refine isx_call ?_; refine k_call (h1) [0, 2] [0] [1, 2] rfl rfl rfl rfl rfl rfl rfl rfl ?_; rintro v_ Lo_ ⟨rfl, rfl⟩) | (refine isx_store ?_; refine gS 1 rfl rfl rfl rfl rfl rfl rfl rfl rfl rfl ?_) | refine wzf ?_ | (refine wzb ?_; intro b_) | fail)
    refine cx_cond rfl (fun h => absurd h (by decide)) (fun _ => ?_)
    repeat (first | ((first | (apply lx_gt; exact rfl; exact rfl; exact rfl) | (apply lx_u; exact rfl) | (apply lx_g; exact rfl; exact rfl)); first | (apply isy_bin_eql; exact yl_true (yl_op (E := EV) rfl) (fun _ => rfl)) | fail) | refine wzf ?_ | (refine wzb ?_; intro b_) | fail)
    refine cx_cond rfl (fun _ => ?_) (fun h => absurd h (by decide))
    repeat (first | (refine isx_call ?_; refine k_call (he1) [0, 2] [0] [1, 2] rfl rfl rfl rfl rfl rfl rfl rfl ?_; rintro v_ Lo_ ⟨rfl, rfl⟩) | (refine isx_call ?_; refine k_call (he2) [0, 2] [0] [1, 2] rfl rfl rfl rfl rfl rfl rfl rfl ?_; rintro v_ Lo_ ⟨rfl, rfl⟩) | (refine isx_store ?_; refine gS 1 rfl rfl rfl rfl rfl rfl rfl rfl rfl rfl ?_) | refine wz ?_ | (refine wzb ?_; intro b_) | fail)
    exact bq_end (ret_none rfl) [_, _] (Gives.pick [0, 1] (by decide) rfl) rfl ⟨rfl, rfl⟩
  · rw [if_neg (by decide), if_neg (by decide)]
    refine fn_enter Tryz.func125 rfl rfl (by kernel_rfl) rfl ?_; intro w0
    repeat (first | ((first | (apply lx_gt; exact rfl; exact rfl; exact rfl) | (apply lx_u; exact rfl) | (apply lx_g; exact rfl; exact rfl)); first | (apply isy_convert; exact q_ci uk8 rfl rfl rfl) | (apply isy_load; exact q_lv 1 rfl rfl rfl rfl rfl) | (apply isy_bin_eql; exact yl_false (yl_op (E := EV) rfl) (fun _ => rfl)) | fail) | (refine isx_call ?_; refine k_call (h1) [0, 2] [0] [1, 2] rfl rfl rfl rfl rfl rfl rfl rfl ?_; rintro v_ Lo_ ⟨rfl, rfl⟩) | (refine isx_store ?_; refine gS 1 rfl rfl rfl rfl rfl rfl rfl rfl rfl rfl ?_) | refine wzf ?_ | (refine wzb ?_; intro b_) | fail)
    refine cx_cond rfl (fun h => absurd h (by decide)) (fun _ => ?_)
    repeat (first | ((first | (apply lx_gt; exact rfl; exact rfl; exact rfl) | (apply lx_u; exact rfl) | (apply lx_g; exact rfl; exact rfl)); first | (apply isy_bin_eql; exact yl_false (yl_op (E := EV) rfl) (fun _ => rfl)) | fail) | refine wzf ?_ | (refine wzb ?_; intro b_) | fail)
    refine cx_cond rfl (fun h => absurd h (by decide)) (fun _ => ?_)
    repeat (first | (refine isx_call ?_; refine k_call (hs1) [0, 2] [0] [1, 2] rfl rfl rfl rfl rfl rfl rfl rfl ?_; rintro v_ Lo_ ⟨rfl, rfl⟩) | (refine isx_call ?_; refine k_call (hs2) [0, 2] [0] [1, 2] rfl rfl rfl rfl rfl rfl rfl rfl ?_; rintro v_ Lo_ ⟨rfl, rfl⟩) | (refine isx_store ?_; refine gS 1 rfl rfl rfl rfl rfl rfl rfl rfl rfl rfl ?_) | refine wz ?_ | (refine wzb ?_; intro b_) | fail)
    exact bq_end (ret_none rfl) [_, _] (Gives.pick [0, 1] (by decide) rfl) rfl ⟨rfl, rfl⟩
theorem parts_names (k : B8) (h : k.toNat ≤ 8) : Fn Tryz.prog 124 [bv k] [] [] fun v Lo => v = .string (sb (names k)) ∧ Lo = [] := by
  rcases le8 h with rfl | rfl | rfl | rfl | rfl | rfl | rfl | rfl | rfl
  · exact parts_fn 0 [] rfl
  · exact parts_fn 1 _ rfl
  · exact parts_fn 2 _ rfl
  · exact parts_fn 3 _ rfl
  · exact parts_fn 4 _ rfl
  · exact parts_fn 5 _ rfl
  · exact parts_fn 6 _ rfl
  · exact parts_fn 7 _ rfl
  · exact parts_fn 8 [] rfl
/-- one part of a request, from the byte at v on; how many bytes in all -/
def partQ (l : List B8) (s : RQ × Nat) : Pt → RQ × Nat
  | .a => ({ s.1 with at_ := BitVec.ofInt 64 ((at_ l s.2 % 16 : Nat) : Int) }, s.2 + 1)
  | .l => ({ s.1 with le := BitVec.ofInt 64 ((at_ l s.2 % 16 : Nat) : Int) }, s.2 + 1)
  | .p => ({ s.1 with pg := BitVec.ofInt 8 ((at_ l s.2 % 65 : Nat) : Int) }, s.2 + 1)
  | .d => ({ s.1 with du := if s.1.k = 6#8 then BitVec.ofInt 16 ((at_ l s.2 : Nat) : Int) else BitVec.ofInt 16 ((at_ l s.2 : Nat) : Int) + 1#16 }, s.2 + 1)
  | .w => (panesQ s.1 (at_ l s.2) (at_ l (s.2 + 1)) (at_ l (s.2 + 2)), s.2 + 3)
def reqK (l : List B8) (v : Nat) : B8 := BitVec.ofInt 8 (((at_ l v % 8 : Nat) : Int) + 1)
def reqQ (l : List B8) (v : Nat) : RQ × Nat := (pts (reqK l v)).foldl (partQ l) (⟨reqK l v, BitVec.ofInt 32 ((at_ l (v + 1) : Nat) : Int), 0#8, 0#16, 0#64, 0#64, 0#8, [], [], 0, 0⟩, v + 2)
theorem reqK_le (l : List B8) (v : Nat) : (reqK l v).toNat ≤ 8 := by
  have h := Nat.mod_lt (at_ l v) (show 0 < 8 by decide)
  unfold reqK
  generalize at_ l v % 8 = q at *
  have : q = 0 ∨ q = 1 ∨ q = 2 ∨ q = 3 ∨ q = 4 ∨ q = 5 ∨ q = 6 ∨ q = 7 := by omega
  rcases this with rfl | rfl | rfl | rfl | rfl | rfl | rfl | rfl <;> decide
set_option maxRecDepth 100000 in
set_option maxHeartbeats 8000000 in
theorem request_fn (b : Nat) (k : Int) {A : Option Addr} {l : List B8} (r : Rd A l) (hl : l.length ≤ 9223372036854775807) : Fn Tryz.prog 97 [.pointer (some ⟨b, 0, none⟩)] [r.blk b k, .ro A l.length 1 (bvs l)] [b] fun v Lo => v = (reqQ l r.v).1.val ∧ ∃ r' : Rd A l, r'.v = (reqQ l r.v).2 ∧ Lo = [r'.blk b k] := by
  have h1 : Fn Tryz.prog 65 [.pointer (some ⟨b, 0, none⟩), .int .i64 (8 : Nat)] [r.blk b k, .ro A l.length 1 (bvs l)] [b] fun v Lo => v = .int .i64 (at_ l r.v % 8 : Nat) ∧ Lo = [(r.go 1).blk b k] := by_fn b k r 8 (by decide) hl
  have h2 := next_fn b k (r.go 1) hl
  have e : ∀ m, (r.go m).nx = r.go (m + 1) := fun _ => rfl
  rw [e, r.go_v] at h2
  have hv2 := r.go_v 2
  have hm := Nat.mod_lt (at_ l r.v) (show 0 < 8 by decide)
  clear e
  generalize r.go 2 = r2 at *
  generalize r.go 1 = r1 at *
  have hpp := parts_names (reqK l r.v) (reqK_le l r.v)
  have hnl : (names (reqK l r.v)).length = (pts (reqK l r.v)).length := List.length_map ..
  obtain ⟨q0, hq0⟩ : ∃ q0 : RQ, q0 = ⟨reqK l r.v, BitVec.ofInt 32 ((at_ l (r.v + 1) : Nat) : Int), 0#8, 0#16, 0#64, 0#64, 0#8, [], [], 0, 0⟩ := ⟨_, rfl⟩
  have hrq : reqQ l r.v = (pts (reqK l r.v)).foldl (partQ l) (q0, r.v + 2) := by rw [hq0]; rfl
  have hkv : BitVec.ofInt 8 (((at_ l r.v % 8 : Nat) : Int) + 1) = reqK l r.v := rfl
  rw [hrq]
  have hkk : q0.k = reqK l r.v := by rw [hq0]
  generalize reqK l r.v = kk at *
  generalize at_ l r.v % 8 = a8 at *
  generalize at_ l (r.v + 1) = a1 at *
  refine fn_enter Tryz.func97 rfl rfl (by kernel_rfl) rfl ?_
  intro w0
  repeat (first | ((first | (apply lx_u; exact rfl) | (apply lx_g; exact rfl; exact rfl)); first | (apply isy_convert; exact yl_eq (q_ci uk8 rfl rfl rfl) (fun _ => congrArg (fun x : B8 => Value.int .u8 x.toNat) hkv)) | (apply isy_convert; exact q_ci uk32 rfl rfl rfl) | (apply isy_load; exact q_lv 0 rfl rfl rfl rfl rfl) | fail) | (refine isx_call ?_; refine k_call (h1) [1, 2] [1] [0, 2] rfl rfl rfl rfl rfl rfl rfl rfl ?_; rintro v_ Lo_ ⟨rfl, rfl⟩) | (refine isx_call ?_; refine k_call (h2) [0, 2] [0] [1, 2] rfl rfl rfl rfl rfl rfl rfl rfl ?_; rintro v_ Lo_ ⟨rfl, rfl⟩) | (refine isx_store ?_; refine gS 0 rfl rfl rfl rfl rfl rfl rfl rfl rfl rfl ?_) | refine wz ?_ | (refine wzb ?_; intro b_) | fail)
  rename_i b2
  generalize b_ = b3
  refine lx_weak (L' := [.blk b3 q0.cells 52, r2.blk b k, .blk b2 zeroQ.cells 52, .ro A l.length 1 (bvs l)]) (by rw [hq0]; exact Gives.refl _) ?_
  repeat (first | (refine isx_call ?_; refine k_gcall (hpp) (fun _ hm => in_nil hm) rfl rfl rfl rfl rfl rfl ?_) | (refine isx_range ?_; refine lx_range (E := EV) rfl rfl rfl rfl rfl rfl rfl (fun _ _ => trivial) ?_; intro bi) | refine wz ?_ | (refine wzb ?_; intro b_) | fail)
  refine cx_loop (α := { x : Nat × Rd A l // x.1 ≤ (pts kk).length ∧ x.2.v = (((pts kk).take x.1).foldl (partQ l) (q0, r.v + 2)).2 }) (fun x => [(0, none, .pointer (some ⟨b, 0, none⟩)), (2, none, .pointer (some ⟨b2, 0, none⟩)), (3, none, .pointer (some ⟨b3, 0, none⟩)), (17, none, .pointer (some ⟨bi, 0, none⟩))])
    (fun x => [.obj bi (.stringIter (sb (names kk)) x.1.1), .blk b3 (((pts kk).take x.1.1).foldl (partQ l) (q0, r.v + 2)).1.cells 52, x.1.2.blk b k, .blk b2 zeroQ.cells 52, .ro A l.length 1 (bvs l)]) (fun x => (pts kk).length - x.1.1) ⟨(0, r2), Nat.zero_le _, hv2⟩ ⟨rfl, rfl, rfl, rfl, trivial⟩ (Gives.refl _) ?_
  rintro ⟨⟨i, r'⟩, hi, hv⟩
  dsimp only at hi hv ⊢
  generalize hs : ((pts kk).take i).foldl (partQ l) (q0, r.v + 2) = s1 at *
  by_cases hlt : i < (pts kk).length
  · obtain ⟨q, hq⟩ : ∃ q, (pts kk)[i]? = some q := ⟨_, List.getElem?_eq_getElem hlt⟩
    have hx := dec_ascii (names_get hq) (ltr_lt q)
    have hsz : i < (sb (names kk)).size := by rw [sb_size, hnl]; exact hlt
    have hnx : ((pts kk).take (i + 1)).foldl (partQ l) (q0, r.v + 2) = partQ l s1 q := by rw [List.take_add_one, hq, List.foldl_append, hs]; rfl
    have y16 := by_fn b k r' 16 (by decide) hl
    have y65 := by_fn b k r' 65 (by decide) hl
    have yn := next_fn b k r' hl
    have yp := panes_fn b b3 k r' s1.1 hl
    rw [hv] at y16 y65 yn yp
    repeat (first | (refine isx_next ?_; refine lx_next 0 rfl rfl rfl rfl rfl rfl rfl hsz hx (fun _ => trivial) ?_) | refine wz ?_ | (refine wzb ?_; intro b_) | fail)
    refine cx_cond rfl (fun _ => ?_) (fun h => absurd h (by decide))
    cases q
    · skip
      repeat (first | refine wz ?_ | (refine wzb ?_; intro b_) | fail)
      refine cx_cond rfl (fun _ => ?_) (fun h => absurd h (by decide))
      repeat (first | ((first | (apply lx_u; exact rfl) | (apply lx_g; exact rfl; exact rfl)); first | (apply isy_convert; exact q_ci uk64 rfl rfl rfl) | fail) | (refine isx_call ?_; refine k_call (y16) [2, 4] [2] [0, 1, 3, 4] rfl rfl rfl rfl rfl rfl rfl rfl ?_; rintro v_ Lo_ ⟨rfl, rfl⟩) | (refine isx_store ?_; refine gS 2 rfl rfl rfl rfl rfl rfl rfl rfl rfl rfl ?_) | refine wz ?_ | (refine wzb ?_; intro b_) | fail)
      exact ⟨⟨(i + 1, r'.nx), hlt, by dsimp only; rw [hnx, Rd.nx_v, hv]; rfl⟩, ⟨rfl, rfl, rfl, rfl, trivial⟩, by dsimp only; rw [hnx]; exact Gives.pick [1, 2, 0, 3, 4] (by decide) rfl, by dsimp only; omega⟩
    · skip
      repeat (first | refine wz ?_ | (refine wzb ?_; intro b_) | fail)
      refine cx_cond rfl (fun h => absurd h (by decide)) (fun _ => ?_)
      repeat (first | refine wz ?_ | (refine wzb ?_; intro b_) | fail)
      refine cx_cond rfl (fun _ => ?_) (fun h => absurd h (by decide))
      repeat (first | ((first | (apply lx_u; exact rfl) | (apply lx_g; exact rfl; exact rfl)); first | (apply isy_convert; exact q_ci uk64 rfl rfl rfl) | fail) | (refine isx_call ?_; refine k_call (y16) [2, 4] [2] [0, 1, 3, 4] rfl rfl rfl rfl rfl rfl rfl rfl ?_; rintro v_ Lo_ ⟨rfl, rfl⟩) | (refine isx_store ?_; refine gS 2 rfl rfl rfl rfl rfl rfl rfl rfl rfl rfl ?_) | refine wz ?_ | (refine wzb ?_; intro b_) | fail)
      exact ⟨⟨(i + 1, r'.nx), hlt, by dsimp only; rw [hnx, Rd.nx_v, hv]; rfl⟩, ⟨rfl, rfl, rfl, rfl, trivial⟩, by dsimp only; rw [hnx]; exact Gives.pick [1, 2, 0, 3, 4] (by decide) rfl, by dsimp only; omega⟩
    · skip
      repeat (first | refine wz ?_ | (refine wzb ?_; intro b_) | fail)
      refine cx_cond rfl (fun h => absurd h (by decide)) (fun _ => ?_)
      repeat (first | refine wz ?_ | (refine wzb ?_; intro b_) | fail)
      refine cx_cond rfl (fun h => absurd h (by decide)) (fun _ => ?_)
      repeat (first | refine wz ?_ | (refine wzb ?_; intro b_) | fail)
      refine cx_cond rfl (fun _ => ?_) (fun h => absurd h (by decide))
      repeat (first | ((first | (apply lx_u; exact rfl) | (apply lx_g; exact rfl; exact rfl)); first | (apply isy_convert; exact q_ci uk8 rfl rfl rfl) | fail) | (refine isx_call ?_; refine k_call (y65) [2, 4] [2] [0, 1, 3, 4] rfl rfl rfl rfl rfl rfl rfl rfl ?_; rintro v_ Lo_ ⟨rfl, rfl⟩) | (refine isx_store ?_; refine gS 2 rfl rfl rfl rfl rfl rfl rfl rfl rfl rfl ?_) | refine wz ?_ | (refine wzb ?_; intro b_) | fail)
      exact ⟨⟨(i + 1, r'.nx), hlt, by dsimp only; rw [hnx, Rd.nx_v, hv]; rfl⟩, ⟨rfl, rfl, rfl, rfl, trivial⟩, by dsimp only; rw [hnx]; exact Gives.pick [1, 2, 0, 3, 4] (by decide) rfl, by dsimp only; omega⟩
    · skip
      repeat (first | refine wz ?_ | (refine wzb ?_; intro b_) | fail)
      refine cx_cond rfl (fun h => absurd h (by decide)) (fun _ => ?_)
      repeat (first | refine wz ?_ | (refine wzb ?_; intro b_) | fail)
      refine cx_cond rfl (fun h => absurd h (by decide)) (fun _ => ?_)
      repeat (first | refine wz ?_ | (refine wzb ?_; intro b_) | fail)
      refine cx_cond rfl (fun h => absurd h (by decide)) (fun _ => ?_)
      repeat (first | refine wz ?_ | (refine wzb ?_; intro b_) | fail)
      refine cx_cond rfl (fun _ => ?_) (fun h => absurd h (by decide))
      repeat (first | ((first | (apply lx_u; exact rfl) | (apply lx_g; exact rfl; exact rfl)); first | (apply isy_convert; exact q_ci uk16 rfl rfl rfl) | (apply isy_load; exact q_lv 2 rfl rfl rfl rfl rfl) | (apply isy_bin_neq; exact q_bne s1.1.k 6#8 rfl rfl rfl rfl) | fail) | (refine isx_call ?_; refine k_call (yn) [2, 4] [2] [0, 1, 3, 4] rfl rfl rfl rfl rfl rfl rfl rfl ?_; rintro v_ Lo_ ⟨rfl, rfl⟩) | (refine isx_store ?_; refine gS 2 rfl rfl rfl rfl rfl rfl rfl rfl rfl rfl ?_) | refine wz ?_ | (refine wzb ?_; intro b_) | fail)
      refine cx_cond rfl (fun h => ?_) (fun h => ?_)
      · have hk6 : s1.1.k ≠ 6#8 := by simpa using h
        have hpd : partQ l s1 .d = ({ s1.1 with du := BitVec.ofInt 16 ((at_ l s1.2 : Nat) : Int) + 1#16 }, s1.2 + 1) := by unfold partQ; dsimp only; rw [if_neg hk6]
        repeat (first | ((first | (apply lx_u; exact rfl) | (apply lx_g; exact rfl; exact rfl)); first | (apply isy_load; exact q_lv 2 rfl rfl rfl rfl rfl) | (apply isy_bin_add; exact q_badd uk16 (BitVec.ofInt 16 ((at_ l s1.2 : Nat) : Int)) 1#16 rfl rfl rfl rfl) | fail) | (refine isx_store ?_; refine gS 2 rfl rfl rfl rfl rfl rfl rfl rfl rfl rfl ?_) | refine wz ?_ | (refine wzb ?_; intro b_) | fail)
        exact ⟨⟨(i + 1, r'.nx), hlt, by dsimp only; rw [hnx, Rd.nx_v, hv, hpd]⟩, ⟨rfl, rfl, rfl, rfl, trivial⟩, by dsimp only; rw [hnx, hpd]; exact Gives.pick [1, 2, 0, 3, 4] (by decide) rfl, by dsimp only; omega⟩
      · have hk6 : s1.1.k = 6#8 := by simpa using h
        have hpd : partQ l s1 .d = ({ s1.1 with du := BitVec.ofInt 16 ((at_ l s1.2 : Nat) : Int) }, s1.2 + 1) := by unfold partQ; dsimp only; rw [if_pos hk6]
        repeat (first | refine wz ?_ | (refine wzb ?_; intro b_) | fail)
        exact ⟨⟨(i + 1, r'.nx), hlt, by dsimp only; rw [hnx, Rd.nx_v, hv, hpd]⟩, ⟨rfl, rfl, rfl, rfl, trivial⟩, by dsimp only; rw [hnx, hpd]; exact Gives.pick [1, 2, 0, 3, 4] (by decide) rfl, by dsimp only; omega⟩
    · skip
      repeat (first | refine wz ?_ | (refine wzb ?_; intro b_) | fail)
      refine cx_cond rfl (fun h => absurd h (by decide)) (fun _ => ?_)
      repeat (first | refine wz ?_ | (refine wzb ?_; intro b_) | fail)
      refine cx_cond rfl (fun h => absurd h (by decide)) (fun _ => ?_)
      repeat (first | refine wz ?_ | (refine wzb ?_; intro b_) | fail)
      refine cx_cond rfl (fun h => absurd h (by decide)) (fun _ => ?_)
      repeat (first | refine wz ?_ | (refine wzb ?_; intro b_) | fail)
      refine cx_cond rfl (fun h => absurd h (by decide)) (fun _ => ?_)
      repeat (first | refine wz ?_ | (refine wzb ?_; intro b_) | fail)
      refine cx_cond rfl (fun _ => ?_) (fun h => absurd h (by decide))
      repeat (first | (refine isx_call ?_; refine k_call (yp) [2, 1, 4] [2, 1] [0, 3, 4] rfl rfl rfl rfl rfl rfl rfl rfl ?_; rintro v_ Lo_ ⟨rfl, rfl⟩) | refine wz ?_ | (refine wzb ?_; intro b_) | fail)
      exact ⟨⟨(i + 1, r'.go 3), hlt, by dsimp only; rw [hnx, Rd.go_v, hv]; rfl⟩, ⟨rfl, rfl, rfl, rfl, trivial⟩, by dsimp only; rw [hnx]; exact Gives.pick [2, 1, 0, 3, 4] (by decide) rfl, by dsimp only; omega⟩
  · obtain rfl : i = (pts kk).length := by omega
    have hsz : ¬ (pts kk).length < (sb (names kk)).size := by rw [sb_size, hnl]; exact Nat.lt_irrefl _
    rw [List.take_length] at hs
    repeat (first | (refine isx_next ?_; refine lx_nextEnd 0 rfl rfl rfl rfl rfl rfl rfl hsz ?_) | refine wz ?_ | (refine wzb ?_; intro b_) | fail)
    refine cx_cond rfl (fun h => absurd h (by decide)) (fun _ => ?_)
    repeat (first | (refine isx_store ?_; refine gS 3 rfl rfl rfl rfl rfl rfl rfl rfl rfl rfl ?_) | refine wz ?_ | (refine wzb ?_; intro b_) | fail)
    exact bq_ret (ret_cell (E := EV) 3 rfl rfl rfl rfl (fun _ => Nat.le_of_ble_eq_true rfl) rfl) [_] (Gives.pick [2] (by decide) rfl) rfl ⟨by rw [hs]; rfl, r', by rw [hs]; exact hv, rfl⟩
end Go.Proofs.YtmochicneilhhaaGreat.sc
