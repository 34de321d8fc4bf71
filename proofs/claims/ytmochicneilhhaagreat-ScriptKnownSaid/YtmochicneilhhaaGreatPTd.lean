/- scripts: a request read. scripts: a request's frame; a step read. -/
import Derived.Test.YtmochicneilhhaaGreatPEb
import Derived.Test.YtmochicneilhhaaGreatPFta
import Derived.Test.YtmochicneilhhaaGreatPGo
import Derived.Test.YtmochicneilhhaaGreatPQta
import Derived.Test.YtmochicneilhhaaGreatPQtb
import Derived.Test.YtmochicneilhhaaGreatPTb
namespace Go.Proofs.YtmochicneilhhaaGreat.sc
open Go.RowKit Go.Proofs.YtmochicneilhhaaGreat.pk Go.Proofs.YtmochicneilhhaaGreat.rq
section
variable {P : Program} {n : Nat} {M : Me} {Q : Post} {t : Fr} {L : List Ck}
theorem yl_arrS {E : Env P} {p c1 c2 : Option Bool} {dst : Option Tmp} {T e : TypeId} {X Y : Operand} {ty : TypeId} {pos : String} {after : Array Edge} {guard : Option (Nat × Bool)} {cs : Array Value} {κ : IntKind} {iv : Int} {m : Nat} {j : TyI} {v : Value}
    (hx : ov t X = some (c1, .agg cs)) (hy : ov t Y = some (c2, .int κ iv)) (hT : tyOf E.f T = .array m e) (he : E.f e = some j) (hv : evPart E.f e cs.toList (iv.toNat * j.size) = some v) (hi : 0 ≤ iv ∧ iv < m) (h1 : cb p = true → cb c1 = true) (h2 : cb p = true → cb c2 = true) :
    Yl P n t L p ⟨dst, .index T X Y, ty, pos, after, guard⟩ v := fun hp M a w hf hm => by
  have hu := run_underlying (P := P) (tyOf_array hT) w
  have hs := E.size he w
  have hr := run_part he hv w
  unfold execOp
  refine run_v ?_
  simp [hf.ov hx (h1 hp), hf.ov hy (h2 hp), Instr.index, asIntOf, hu, hi, hs, hr]
end
abbrev ptsL : List (List B8) := [[], [97#8, 112#8, 119#8], [97#8, 100#8], [108#8, 100#8], [108#8], [100#8, 119#8], [108#8, 112#8, 100#8], [108#8], []]
abbrev ptsV : List Value := [.string (sb []), .string (sb [97#8, 112#8, 119#8]), .string (sb [97#8, 100#8]), .string (sb [108#8, 100#8]), .string (sb [108#8]), .string (sb [100#8, 119#8]), .string (sb [108#8, 112#8, 100#8]), .string (sb [108#8]), .string (sb [])]
theorem pts_ex (i : Nat) (h : i < 9) : ∃ s, ptsL[i]? = some s ∧ evPart EV.f 9 ptsV (i * 1) = some (.string (sb s)) := by
  have : i = 0 ∨ i = 1 ∨ i = 2 ∨ i = 3 ∨ i = 4 ∨ i = 5 ∨ i = 6 ∨ i = 7 ∨ i = 8 := by omega
  rcases this with rfl | rfl | rfl | rfl | rfl | rfl | rfl | rfl | rfl <;> exact ⟨_, rfl, rfl⟩
attribute [local irreducible] LX CX Yl Gives RetIs Fn
theorem parts_fn (i : Nat) (s : List B8) (h : ptsL[i]? = some s) : Fn Tryz.prog 124 [.int .u8 i] [] [] fun v Lo => v = .string (sb s) ∧ Lo = [] := by
  have hi : i < 9 := (List.getElem?_eq_some_iff.1 h).1
  obtain ⟨s', h1, h2⟩ := pts_ex i hi
  obtain rfl : s' = s := Option.some.inj (h1.symm.trans h)
  refine fn_enter Tryz.func124 rfl rfl (by kernel_rfl) rfl ?_
  intro w0
  repeat (first | ((first | (apply lx_u; exact rfl) | (apply lx_g; exact rfl; exact rfl)); first | exact yl_arrS (E := EV) rfl rfl rfl rfl h2 (by omega) (by first | exact fun _ => rfl | exact fun h => h | exact fun h => (Bool.and_eq_true_iff.1 h).1) (by first | exact fun _ => rfl | exact fun h => h | exact fun h => (Bool.and_eq_true_iff.1 h).1) | fail) | refine wz ?_ | (refine wzb ?_; intro b_) | fail)
  exact bq_ret (ret_tmp rfl rfl) [] (Gives.nil _) rfl ⟨rfl, rfl⟩
/-- which panes three bytes tell -/
def panesQ (q : RQ) (a x y : Nat) : RQ :=
  if a % 3 = 0 then { q with so := 1#8, ky := keyQ x, ls := small y }
  else if a % 3 = 1 then { q with so := 2#8, ky := edgeQ x, to_ := edgeQ y }
  else { q with so := 3#8, ls := small x, ms := small y }
set_option maxRecDepth 100000 in
set_option maxHeartbeats 4000000 in
theorem panes_fn (b bx : Nat) (k : Int) {A : Option Addr} {l : List B8} (r : Rd A l) (q : RQ) (hl : l.length ≤ 9223372036854775807) : Fn Tryz.prog 125 [.pointer (some ⟨b, 0, none⟩), .pointer (some ⟨bx, 0, none⟩)] [r.blk b k, .blk bx q.cells 52, .ro A l.length 1 (bvs l)] [b, bx] fun v Lo => v = .tuple #[] ∧ Lo = [(r.go 3).blk b k, .blk bx (panesQ q (at_ l r.v) (at_ l (r.v + 1)) (at_ l (r.v + 2))).cells 52] := by
  have h1 : Fn Tryz.prog 65 [.pointer (some ⟨b, 0, none⟩), .int .i64 (3 : Nat)] [r.blk b k, .ro A l.length 1 (bvs l)] [b] fun v Lo => v = .int .i64 (at_ l r.v % 3 : Nat) ∧ Lo = [(r.go 1).blk b k] := by_fn b k r 3 (by decide) hl
  have hk := key_fn b k (r.go 1) hl
  have he1 := edge_fn b k (r.go 1) hl
  have he2 := edge_fn b k (r.go 2) hl
  have hs1 := small_fn b k (r.go 1) hl
  have hs2 := small_fn b k (r.go 2) hl
  have e : ∀ m, (r.go m).nx = r.go (m + 1) := fun _ => rfl
  rw [e, r.go_v] at hk he1 he2 hs1 hs2
  have hm := Nat.mod_lt (at_ l r.v) (show 0 < 3 by decide)
  clear e
  unfold panesQ
  generalize at_ l (r.v + 1) = x at *
  generalize at_ l (r.v + 2) = y at *
  generalize at_ l r.v % 3 = a at *
  generalize r.go 3 = r3 at *
  generalize r.go 2 = r2 at *
  generalize r.go 1 = r1 at *
  have ha : a = 0 ∨ a = 1 ∨ a = 2 := by omega
  rcases ha with rfl | rfl | rfl
  · rw [if_pos rfl]
    refine fn_enter Tryz.func125 rfl rfl (by kernel_rfl) rfl ?_; intro w0
    repeat (first | ((first | (apply lx_gt; exact rfl; exact rfl; exact rfl) | (apply lx_u; exact rfl) | (apply lx_g; exact rfl; exact rfl)); first | (apply isy_convert; exact q_ci uk8 rfl rfl rfl) | (apply isy_load; exact q_lv 1 rfl rfl rfl rfl rfl) | (apply isy_bin_eql; exact yl_true (yl_op (E := EV) rfl) (fun _ => rfl)) | fail) | (refine isx_call ?_; refine k_call (h1) [0, 2] [0] [1, 2] rfl rfl rfl rfl rfl rfl rfl rfl ?_; rintro v_ Lo_ ⟨rfl, rfl⟩) | (refine isx_store ?_; refine gS 1 rfl rfl rfl rfl rfl rfl rfl rfl rfl rfl ?_) | refine wzf ?_ | (refine wzb ?_; intro b_) | fail)
    refine cx_cond rfl (fun _ => ?_) (fun h => absurd h (by decide))
    repeat (first | (refine isx_call ?_; refine k_call (hk) [0, 2] [0] [1, 2] rfl rfl rfl rfl rfl rfl rfl rfl ?_; rintro v_ Lo_ ⟨rfl, rfl⟩) | (refine isx_call ?_; refine k_call (hs2) [0, 2] [0] [1, 2] rfl rfl rfl rfl rfl rfl rfl rfl ?_; rintro v_ Lo_ ⟨rfl, rfl⟩) | (refine isx_store ?_; refine gS 1 rfl rfl rfl rfl rfl rfl rfl rfl rfl rfl ?_) | refine wz ?_ | (refine wzb ?_; intro b_) | fail)
    exact bq_end (ret_none rfl) [_, _] (Gives.pick [0, 1] (by decide) rfl) rfl ⟨rfl, rfl⟩
  · rw [if_neg (by decide), if_pos rfl]
    refine fn_enter Tryz.func125 rfl rfl (by kernel_rfl) rfl ?_; intro w0
    repeat (first | ((first | (apply lx_gt; exact rfl; exact rfl; exact rfl) | (apply lx_u; exact rfl) | (apply lx_g; exact rfl; exact rfl)); first | (apply isy_convert; exact q_ci uk8 rfl rfl rfl) | (apply isy_load; exact q_lv 1 rfl rfl rfl rfl rfl) | (apply isy_bin_eql; exact yl_false (yl_op (E := EV) rfl) (fun _ => rfl)) | fail) | (refine isx_call ?_; refine k_call (h1) [0, 2] [0] [1, 2] rfl rfl rfl rfl rfl rfl rfl rfl ?_; rintro v_ Lo_ ⟨rfl, rfl⟩) | (refine isx_store ?_; refine gS 1 rfl rfl rfl rfl rfl rfl rfl rfl rfl rfl ?_) | refine wzf ?_ | (refine wzb ?_; intro b_) | fail)
    refine cx_cond rfl (fun h => absurd h (by decide)) (fun _ => ?_)
    repeat (first | ((first | (apply lx_gt; exact rfl; exact rfl; exact rfl) | (apply lx_u; exact rfl) | (apply lx_g; exact rfl; exact rfl)); first | (apply isy_bin_eql; exact yl_true (yl_op (E := EV) rfl) (fun _ => rfl)) | fail) | refine wzf ?_ | (refine wzb ?_; intro b_) | fail)
    refine cx_cond rfl (fun _ => ?_) (fun h => absurd h (by decide))
    repeat (first | (refine isx_call ?_; refine k_call (he1) [0, 2] [0] [1, 2] rfl rfl rfl rfl rfl rfl rfl rfl ?_; rintro v_ Lo_ ⟨rfl, rfl⟩) | (refine isx_call ?_; refine k_call (he2) [0, 2] [0] [1, 2] rfl rfl rfl rfl rfl rfl rfl rfl ?_; rintro v_ Lo_ ⟨rfl, rfl⟩) | (refine isx_store ?_; refine gS 1 rfl rfl rfl rfl rfl rfl rfl rfl rfl rfl ?_) | refine wz ?_ | (refine wzb ?_; intro b_) | fail)
    exact bq_end (ret_none rfl) [_, _] (Gives.pick [0, 1] (by decide) rfl) rfl ⟨rfl, rfl⟩
  · rw [if_neg (by decide), if_neg (by decide)]
    refine fn_enter Tryz.func125 rfl rfl (by kernel_rfl) rfl ?_; intro w0
    repeat (first | ((first | (apply lx_gt; exact rfl; exact rfl; exact rfl) | (apply lx_u; exact rfl) | (apply lx_g; exact rfl; exact rfl)); first | (apply isy_convert; exact q_ci uk8 rfl rfl rfl) | (apply isy_load; exact q_lv 1 rfl rfl rfl rfl rfl) | (apply isy_bin_eql; exact yl_false (yl_op (E := EV) rfl) (fun _ => rfl)) | fail) | (refine isx_call ?_; refine k_call (h1) [0, 2] [0] [1, 2] rfl rfl rfl rfl rfl rfl rfl rfl ?_; rintro v_ Lo_ ⟨rfl, rfl⟩) | (refine isx_store ?_; refine gS 1 rfl rfl rfl rfl rfl rfl rfl rfl rfl rfl ?_) | refine wzf ?_ | (refine wzb ?_; intro b_) | fail)
    refine cx_cond rfl (fun h => absurd h (by decide)) (fun _ => ?_)
    repeat (first | ((first | (apply lx_gt; exact rfl; exact rfl; exact rfl) | (apply lx_u; exact rfl) | (apply lx_g; exact rfl; exact rfl)); first | (apply isy_bin_eql; exact yl_false (yl_op (E := EV) rfl) (fun _ => rfl)) | fail) | refine wzf ?_ | (refine wzb ?_; intro b_) | fail)
    refine cx_cond rfl (fun h => absurd h (by decide)) (fun _ => ?_)
    repeat (first | (refine isx_call ?_; refine k_call (hs1) [0, 2] [0] [1, 2] rfl rfl rfl rfl rfl rfl rfl rfl ?_; rintro v_ Lo_ ⟨rfl, rfl⟩) | (refine isx_call ?_; refine k_call (hs2) [0, 2] [0] [1, 2] rfl rfl rfl rfl rfl rfl rfl rfl ?_; rintro v_ Lo_ ⟨rfl, rfl⟩) | (refine isx_store ?_; refine gS 1 rfl rfl rfl rfl rfl rfl rfl rfl rfl rfl ?_) | refine wz ?_ | (refine wzb ?_; intro b_) | fail)
    exact bq_end (ret_none rfl) [_, _] (Gives.pick [0, 1] (by decide) rfl) rfl ⟨rfl, rfl⟩
theorem parts_names (k : B8) (h : k.toNat ≤ 8) : Fn Tryz.prog 124 [bv k] [] [] fun v Lo => v = .string (sb (names k)) ∧ Lo = [] := by
  rcases le8 h with rfl | rfl | rfl | rfl | rfl | rfl | rfl | rfl | rfl
  · exact parts_fn 0 [] rfl
  · exact parts_fn 1 _ rfl
  · exact parts_fn 2 _ rfl
  · exact parts_fn 3 _ rfl
  · exact parts_fn 4 _ rfl
  · exact parts_fn 5 _ rfl
  · exact parts_fn 6 _ rfl
  · exact parts_fn 7 _ rfl
  · exact parts_fn 8 [] rfl
/-- one part of a request, from the byte at v on; how many bytes in all -/
def partQ (l : List B8) (s : RQ × Nat) : Pt → RQ × Nat
  | .a => ({ s.1 with at_ := BitVec.ofInt 64 ((at_ l s.2 % 16 : Nat) : Int) }, s.2 + 1)
  | .l => ({ s.1 with le := BitVec.ofInt 64 ((at_ l s.2 % 16 : Nat) : Int) }, s.2 + 1)
  | .p => ({ s.1 with pg := BitVec.ofInt 8 ((at_ l s.2 % 65 : Nat) : Int) }, s.2 + 1)
  | .d => ({ s.1 with du := if s.1.k = 6#8 then BitVec.ofInt 16 ((at_ l s.2 : Nat) : Int) else BitVec.ofInt 16 ((at_ l s.2 : Nat) : Int) + 1#16 }, s.2 + 1)
  | .w => (panesQ s.1 (at_ l s.2) (at_ l (s.2 + 1)) (at_ l (s.2 + 2)), s.2 + 3)
def reqK (l : List B8) (v : Nat) : B8 := BitVec.ofInt 8 (((at_ l v % 8 : Nat) : Int) + 1)
def reqQ (l : List B8) (v : Nat) : RQ × Nat := (pts (reqK l v)).foldl (partQ l) (⟨reqK l v, BitVec.ofInt 32 ((at_ l (v + 1) : Nat) : Int), 0#8, 0#16, 0#64, 0#64, 0#8, [], [], 0, 0⟩, v + 2)
theorem reqK_le (l : List B8) (v : Nat) : (reqK l v).toNat ≤ 8 := by
  have h := Nat.mod_lt (at_ l v) (show 0 < 8 by decide)
  unfold reqK
  generalize at_ l v % 8 = q at *
  have : q = 0 ∨ q = 1 ∨ q = 2 ∨ q = 3 ∨ q = 4 ∨ q = 5 ∨ q = 6 ∨ q = 7 := by omega
  rcases this with rfl | rfl | rfl | rfl | rfl | rfl | rfl | rfl <;> decide
set_option maxRecDepth 100000 in
set_option maxHeartbeats 8000000 in
theorem request_fn (b : Nat) (k : Int) {A : Option Addr} {l : List B8} (r : Rd A l) (hl : l.length ≤ 9223372036854775807) : Fn Tryz.prog 97 [.pointer (some ⟨b, 0, none⟩)] [r.blk b k, .ro A l.length 1 (bvs l)] [b] fun v Lo => v = (reqQ l r.v).1.val ∧ ∃ r' : Rd A l, r'.v = (reqQ l r.v).2 ∧ Lo = [r'.blk b k] := by
  have h1 : Fn Tryz.prog 65 [.pointer (some ⟨b, 0, none⟩), .int .i64 (8 : Nat)] [r.blk b k, .ro A l.length 1 (bvs l)] [b] fun v Lo => v = .int .i64 (at_ l r.v % 8 : Nat) ∧ Lo = [(r.go 1).blk b k] := by_fn b k r 8 (by decide) hl
  have h2 := next_fn b k (r.go 1) hl
  have e : ∀ m, (r.go m).nx = r.go (m + 1) := fun _ => rfl
  rw [e, r.go_v] at h2
  have hv2 := r.go_v 2
  have hm := Nat.mod_lt (at_ l r.v) (show 0 < 8 by decide)
  clear e
  generalize r.go 2 = r2 at *
  generalize r.go 1 = r1 at *
  have hpp := parts_names (reqK l r.v) (reqK_le l r.v)
  have hnl : (names (reqK l r.v)).length = (pts (reqK l r.v)).length := List.length_map ..
  obtain ⟨q0, hq0⟩ : ∃ q0 : RQ, q0 = ⟨reqK l r.v, BitVec.ofInt 32 ((at_ l (r.v + 1) : Nat) : Int), 0#8, 0#16, 0#64, 0#64, 0#8, [], [], 0, 0⟩ := ⟨_, rfl⟩
  have hrq : reqQ l r.v = (pts (reqK l r.v)).foldl (partQ l) (q0, r.v + 2) := by rw [hq0]; rfl
  have hkv : BitVec.ofInt 8 (((at_ l r.v % 8 : Nat) : Int) + 1) = reqK l r.v := rfl
  rw [hrq]
  have hkk : q0.k = reqK l r.v := by rw [hq0]
  generalize reqK l r.v = kk at *
  generalize at_ l r.v % 8 = a8 at *
  generalize at_ l (r.v + 1) = a1 at *
  refine fn_enter Tryz.func97 rfl rfl (by kernel_rfl) rfl ?_
  intro w0
  repeat (first | ((first | (apply lx_u; exact rfl) | (apply lx_g; exact rfl; exact rfl)); first | (apply isy_convert; exact yl_eq (q_ci uk8 rfl rfl rfl) (fun _ => congrArg (fun x : B8 => Value.int .u8 x.toNat) hkv)) | (apply isy_convert; exact q_ci uk32 rfl rfl rfl) | (apply isy_load; exact q_lv 0 rfl rfl rfl rfl rfl) | fail) | (refine isx_call ?_; refine k_call (h1) [1, 2] [1] [0, 2] rfl rfl rfl rfl rfl rfl rfl rfl ?_; rintro v_ Lo_ ⟨rfl, rfl⟩) | (refine isx_call ?_; refine k_call (h2) [0, 2] [0] [1, 2] rfl rfl rfl rfl rfl rfl rfl rfl ?_; rintro v_ Lo_ ⟨rfl, rfl⟩) | (refine isx_store ?_; refine gS 0 rfl rfl rfl rfl rfl rfl rfl rfl rfl rfl ?_) | refine wz ?_ | (refine wzb ?_; intro b_) | fail)
  rename_i b2
  generalize b_ = b3
  refine lx_weak (L' := [.blk b3 q0.cells 52, r2.blk b k, .blk b2 zeroQ.cells 52, .ro A l.length 1 (bvs l)]) (by rw [hq0]; exact Gives.refl _) ?_
  repeat (first | (refine isx_call ?_; refine k_gcall (hpp) (fun _ hm => in_nil hm) rfl rfl rfl rfl rfl rfl ?_) | (refine isx_range ?_; refine lx_range (E := EV) rfl rfl rfl rfl rfl rfl rfl (fun _ _ => trivial) ?_; intro bi) | refine wz ?_ | (refine wzb ?_; intro b_) | fail)
  refine cx_loop (α := { x : Nat × Rd A l // x.1 ≤ (pts kk).length ∧ x.2.v = (((pts kk).take x.1).foldl (partQ l) (q0, r.v + 2)).2 }) (fun x => [(0, none, .pointer (some ⟨b, 0, none⟩)), (2, none, .pointer (some ⟨b2, 0, none⟩)), (3, none, .pointer (some ⟨b3, 0, none⟩)), (17, none, .pointer (some ⟨bi, 0, none⟩))])
    (fun x => [.obj bi (.stringIter (sb (names kk)) x.1.1), .blk b3 (((pts kk).take x.1.1).foldl (partQ l) (q0, r.v + 2)).1.cells 52, x.1.2.blk b k, .blk b2 zeroQ.cells 52, .ro A l.length 1 (bvs l)]) (fun x => (pts kk).length - x.1.1) ⟨(0, r2), Nat.zero_le _, hv2⟩ ⟨rfl, rfl, rfl, rfl, trivial⟩ (Gives.refl _) ?_
  rintro ⟨⟨i, r'⟩, hi, hv⟩
  dsimp only at hi hv ⊢
  generalize hs : ((pts kk).take i).foldl (partQ l) (q0, r.v + 2) = s1 at *
  by_cases hlt : i < (pts kk).length
  · obtain ⟨q, hq⟩ : ∃ q, (pts kk)[i]? = some q := ⟨_, List.getElem?_eq_getElem hlt⟩
    have hx := dec_ascii (names_get hq) (ltr_lt q)
    have hsz : i < (sb (names kk)).size := by rw [sb_size, hnl]; exact hlt
    have hnx : ((pts kk).take (i + 1)).foldl (partQ l) (q0, r.v + 2) = partQ l s1 q := by rw [List.take_add_one, hq, List.foldl_append, hs]; rfl
    have y16 := by_fn b k r' 16 (by decide) hl
    have y65 := by_fn b k r' 65 (by decide) hl
    have yn := next_fn b k r' hl
    have yp := panes_fn b b3 k r' s1.1 hl
    rw [hv] at y16 y65 yn yp
    repeat (first | (refine isx_next ?_; refine lx_next 0 rfl rfl rfl rfl rfl rfl rfl hsz hx (fun _ => trivial) ?_) | refine wz ?_ | (refine wzb ?_; intro b_) | fail)
    refine cx_cond rfl (fun _ => ?_) (fun h => absurd h (by decide))
    cases q
    · skip
      repeat (first | refine wz ?_ | (refine wzb ?_; intro b_) | fail)
      refine cx_cond rfl (fun _ => ?_) (fun h => absurd h (by decide))
      repeat (first | ((first | (apply lx_u; exact rfl) | (apply lx_g; exact rfl; exact rfl)); first | (apply isy_convert; exact q_ci uk64 rfl rfl rfl) | fail) | (refine isx_call ?_; refine k_call (y16) [2, 4] [2] [0, 1, 3, 4] rfl rfl rfl rfl rfl rfl rfl rfl ?_; rintro v_ Lo_ ⟨rfl, rfl⟩) | (refine isx_store ?_; refine gS 2 rfl rfl rfl rfl rfl rfl rfl rfl rfl rfl ?_) | refine wz ?_ | (refine wzb ?_; intro b_) | fail)
      exact ⟨⟨(i + 1, r'.nx), hlt, by dsimp only; rw [hnx, Rd.nx_v, hv]; rfl⟩, ⟨rfl, rfl, rfl, rfl, trivial⟩, by dsimp only; rw [hnx]; exact Gives.pick [1, 2, 0, 3, 4] (by decide) rfl, by dsimp only; omega⟩
    · skip
      repeat (first | refine wz ?_ | (refine wzb ?_; intro b_) | fail)
      refine cx_cond rfl (fun h => absurd h (by decide)) (fun _ => ?_)
      repeat (first | refine wz ?_ | (refine wzb ?_; intro b_) | fail)
      refine cx_cond rfl (fun _ => ?_) (fun h => absurd h (by decide))
      repeat (first | ((first | (apply lx_u; exact rfl) | (apply lx_g; exact rfl; exact rfl)); first | (apply isy_convert; exact q_ci uk64 rfl rfl rfl) | fail) | (refine isx_call ?_; refine k_call (y16) [2, 4] [2] [0, 1, 3, 4] rfl rfl rfl rfl rfl rfl rfl rfl ?_; rintro v_ Lo_ ⟨rfl, rfl⟩) | (refine isx_store ?_; refine gS 2 rfl rfl rfl rfl rfl rfl rfl rfl rfl rfl ?_) | refine wz ?_ | (refine wzb ?_; intro b_) | fail)
      exact ⟨⟨(i + 1, r'.nx), hlt, by dsimp only; rw [hnx, Rd.nx_v, hv]; rfl⟩, ⟨rfl, rfl, rfl, rfl, trivial⟩, by dsimp only; rw [hnx]; exact Gives.pick [1, 2, 0, 3, 4] (by decide) rfl, by dsimp only; omega⟩
    · skip
      repeat (first | refine wz ?_ | (refine wzb ?_; intro b_) | fail)
      refine cx_cond rfl (fun h => absurd h (by decide)) (fun _ => ?_)
      repeat (first | refine wz ?_ | (refine wzb ?_; intro b_) | fail)
      refine cx_cond rfl (fun h => absurd h (by decide)) (fun _ => ?_)
      repeat (first | refine wz ?_ | (refine wzb ?_; intro b_) | fail)
      refine cx_cond rfl (fun _ => ?_) (fun h => absurd h (by decide))
      repeat (first | ((first | (apply lx_u; exact rfl) | (apply lx_g; exact rfl; exact rfl)); first | (apply isy_convert; exact q_ci uk8 rfl rfl rfl) | fail) | (refine isx_call ?_; refine k_call (y65) [2, 4] [2] [0, 1, 3, 4] rfl rfl rfl rfl rfl rfl rfl rfl ?_; rintro v_ Lo_ ⟨rfl, rfl⟩) | (refine isx_store ?_; refine gS 2 rfl rfl rfl rfl rfl rfl rfl rfl rfl rfl ?_) | refine wz ?_ | (refine wzb ?_; intro b_) | fail)
      exact ⟨⟨(i + 1, r'.nx), hlt, by dsimp only; rw [hnx, Rd.nx_v, hv]; rfl⟩, ⟨rfl, rfl, rfl, rfl, trivial⟩, by dsimp only; rw [hnx]; exact Gives.pick [1, 2, 0, 3, 4] (by decide) rfl, by dsimp only; omega⟩
    · skip
      repeat (first | refine wz ?_ | (refine wzb ?_; intro b_) | fail)
      refine cx_cond rfl (fun h => absurd h (by decide)) (fun _ => ?_)
      repeat (first | refine wz ?_ | (refine wzb ?_; intro b_) | fail)
      refine cx_cond rfl (fun h => absurd h (by decide)) (fun _ => ?_)
      repeat (first | refine wz ?_ | (refine wzb ?_; intro b_) | fail)
      refine cx_cond rfl (fun h => absurd h (by decide)) (fun _ => ?_)
      repeat (first | refine wz ?_ | (refine wzb ?_; intro b_) | fail)
      refine cx_cond rfl (fun _ => ?_) (fun h => absurd h (by decide))
      repeat (first | ((first | (apply lx_u; exact rfl) | (apply lx_g; exact rfl; exact rfl)); first | (apply isy_convert; exact q_ci uk16 rfl rfl rfl) | (apply isy_load; exact q_lv 2 rfl rfl rfl rfl rfl) | (apply isy_bin_neq; exact q_bne s1.1.k 6#8 rfl rfl rfl rfl) | fail) | (refine isx_call ?_; refine k_call (yn) [2, 4] [2] [0, 1, 3, 4] rfl rfl rfl rfl rfl rfl rfl rfl ?_; rintro v_ Lo_ ⟨rfl, rfl⟩) | (refine isx_store ?_; refine gS 2 rfl rfl rfl rfl rfl rfl rfl rfl rfl rfl ?_) | refine wz ?_ | (refine wzb ?_; intro b_) | fail)
      refine cx_cond rfl (fun h => ?_) (fun h => ?_)
      · have hk6 : s1.1.k ≠ 6#8 := by simpa using h
        have hpd : partQ l s1 .d = ({ s1.1 with du := BitVec.ofInt 16 ((at_ l s1.2 : Nat) : Int) + 1#16 }, s1.2 + 1) := by unfold partQ; dsimp only; rw [if_neg hk6]
        repeat (first | ((first | (apply lx_u; exact rfl) | (apply lx_g; exact rfl; exact rfl)); first | (apply isy_load; exact q_lv 2 rfl rfl rfl rfl rfl) | (apply isy_bin_add; exact q_badd uk16 (BitVec.ofInt 16 ((at_ l s1.2 : Nat) : Int)) 1#16 rfl rfl rfl rfl) | fail) | (refine isx_store ?_; refine gS 2 rfl rfl rfl rfl rfl rfl rfl rfl rfl rfl ?_) | refine wz ?_ | (refine wzb ?_; intro b_) | fail)
        exact ⟨⟨(i + 1, r'.nx), hlt, by dsimp only; rw [hnx, Rd.nx_v, hv, hpd]⟩, ⟨rfl, rfl, rfl, rfl, trivial⟩, by dsimp only; rw [hnx, hpd]; exact Gives.pick [1, 2, 0, 3, 4] (by decide) rfl, by dsimp only; omega⟩
      · have hk6 : s1.1.k = 6#8 := by simpa using h
        have hpd : partQ l s1 .d = ({ s1.1 with du := BitVec.ofInt 16 ((at_ l s1.2 : Nat) : Int) }, s1.2 + 1) := by unfold partQ; dsimp only; rw [if_pos hk6]
        repeat (first | refine wz ?_ | (refine wzb ?_; intro b_) | fail)
        exact ⟨⟨(i + 1, r'.nx), hlt, by dsimp only; rw [hnx, Rd.nx_v, hv, hpd]⟩, ⟨rfl, rfl, rfl, rfl, trivial⟩, by dsimp only; rw [hnx, hpd]; exact Gives.pick [1, 2, 0, 3, 4] (by decide) rfl, by dsimp only; omega⟩
    · skip
      repeat (first | refine wz ?_ | (refine wzb ?_; intro b_) | fail)
      refine cx_cond rfl (fun h => absurd h (by decide)) (fun _ => ?_)
      repeat (first | refine wz ?_ | (refine wzb ?_; intro b_) | fail)
      refine cx_cond rfl (fun h => absurd h (by decide)) (fun _ => ?_)
      repeat (first | refine wz ?_ | (refine wzb ?_; intro b_) | fail)
      refine cx_cond rfl (fun h => absurd h (by decide)) (fun _ => ?_)
      repeat (first | refine wz ?_ | (refine wzb ?_; intro b_) | fail)
      refine cx_cond rfl (fun h => absurd h (by decide)) (fun _ => ?_)
      repeat (first | refine wz ?_ | (refine wzb ?_; intro b_) | fail)
      refine cx_cond rfl (fun _ => ?_) (fun h => absurd h (by decide))
      repeat (first | (refine isx_call ?_; refine k_call (yp) [2, 1, 4] [2, 1] [0, 3, 4] rfl rfl rfl rfl rfl rfl rfl rfl ?_; rintro v_ Lo_ ⟨rfl, rfl⟩) | refine wz ?_ | (refine wzb ?_; intro b_) | fail)
      exact ⟨⟨(i + 1, r'.go 3), hlt, by dsimp only; rw [hnx, Rd.go_v, hv]; rfl⟩, ⟨rfl, rfl, rfl, rfl, trivial⟩, by dsimp only; rw [hnx]; exact Gives.pick [2, 1, 0, 3, 4] (by decide) rfl, by dsimp only; omega⟩
  · obtain rfl : i = (pts kk).length := by omega
    have hsz : ¬ (pts kk).length < (sb (names kk)).size := by rw [sb_size, hnl]; exact Nat.lt_irrefl _
    rw [List.take_length] at hs
    repeat (first | (refine isx_next ?_; refine lx_nextEnd 0 rfl rfl rfl rfl rfl rfl rfl hsz ?_) | refine wz ?_ | (refine wzb ?_; intro b_) | fail)
    refine cx_cond rfl (fun h => absurd h (by decide)) (fun _ => ?_)
    repeat (first | (refine isx_store ?_; refine gS 3 rfl rfl rfl rfl rfl rfl rfl rfl rfl rfl ?_) | refine wz ?_ | (refine wzb ?_; intro b_) | fail)
    exact bq_ret (ret_cell (E := EV) 3 rfl rfl rfl rfl (fun _ => Nat.le_of_ble_eq_true rfl) rfl) [_] (Gives.pick [2] (by decide) rfl) rfl ⟨by rw [hs]; rfl, r', by rw [hs]; exact hv, rfl⟩
end Go.Proofs.YtmochicneilhhaaGreat.sc
namespace Go.Proofs.YtmochicneilhhaaGreat.sc
open Go.RowKit Go.Proofs.YtmochicneilhhaaGreat.kit Go.Proofs.YtmochicneilhhaaGreat.pk Go.Proofs.YtmochicneilhhaaGreat.rq Go.Proofs.YtmochicneilhhaaGreat.ev
theorem putQ_y {r : RQ} (h : r.right = true) : putQ r = (r.enc, 0) := by unfold putQ; rw [h]; rfl
theorem putQ_n {r : RQ} (h : r.right = false) : putQ r = ([], 81) := by unfold putQ; rw [h]; rfl
theorem encQ_le {r : RQ} (h : r.right = true) : r.enc.length ≤ 300 := by
  have ⟨hk, ht⟩ := right_texts h
  have : ∀ ps : List Pt, (ps.flatMap r.encP).length ≤ 85 * ps.length := by
    intro ps
    induction ps with
    | nil => simp
    | cons q ps ih =>
      have := encP_len r hk ht q
      rw [List.flatMap_cons, List.length_append, List.length_cons]
      omega
  have h1 := this (pts r.k)
  have h2 := pts_len r.k
  have h3 := hd_len r
  rw [RQ.enc, List.length_append]
  omega
/-- a request's frame -/
def frameQ (r : RQ) : List B8 := if r.right then fr.frm r.enc else []
theorem frameQ_le (r : RQ) : (frameQ r).length ≤ 308 := by
  unfold frameQ
  split
  · rename_i h
    have := encQ_le h
    rw [fr.frm_len]
    omega
  · simp
attribute [local irreducible] LX CX Yl Gives RetIs Fn
attribute [local irreducible] be de fr.frm
theorem frame_fn (r : RQ) : Fn Tryz.prog 17 [r.val] [] [] fun v Lo => ∃ A c, v = .slice A (frameQ r).length c ∧ Lo = [.own A (frameQ r).length c 5 1 (bvs (frameQ r))] := by
  have h := put_fn r
  unfold Packed at h
  unfold frameQ
  cases hr : r.right with
  | false =>
    rw [putQ_n hr] at h
    refine fn_enter Tryz.func17 rfl rfl (by kernel_rfl) rfl ?_; intro w0
    repeat (first | ((first | (apply lx_gt; exact rfl; exact rfl; exact rfl) | (apply lx_u; exact rfl) | (apply lx_g; exact rfl; exact rfl)); first | (apply isy_bin_neq; exact yl_true (yl_op (E := EV) rfl) (fun _ => rfl)) | fail) | (refine isx_call ?_; (refine isx_call ?_; refine lx_call0 (h) (fun _ hm => in_nil hm) rfl rfl rfl rfl rfl rfl rfl rfl ?_; rintro v_ Lo_ ⟨A, c, rfl, rfl⟩)) | refine wzf ?_ | (refine wzb ?_; intro b_) | fail)
    refine cx_cond rfl (fun _ => ?_) (fun h => absurd h (by decide))
    repeat (first | refine wz ?_ | (refine wzb ?_; intro b_) | fail)
    exact bq_ret (ret_tmp rfl rfl) [_] ((Gives.nilown _ _ _).trans (Gives.pick [0] (by decide) rfl)) rfl ⟨none, 0, rfl, rfl⟩
  | true =>
    rw [putQ_y hr] at h
    have hle := encQ_le hr
    dsimp only at h
    rw [if_pos rfl]
    generalize r.enc = u at *
    refine fn_enter Tryz.func17 rfl rfl (by kernel_rfl) rfl ?_; intro w0
    repeat (first | ((first | (apply lx_gt; exact rfl; exact rfl; exact rfl) | (apply lx_u; exact rfl) | (apply lx_g; exact rfl; exact rfl)); first | (apply isy_bin_neq; exact yl_false (yl_op (E := EV) rfl) (fun _ => rfl)) | fail) | (refine isx_call ?_; (refine isx_call ?_; refine lx_call0 (h) (fun _ hm => in_nil hm) rfl rfl rfl rfl rfl rfl rfl rfl ?_; rintro v_ Lo_ ⟨A, c, rfl, rfl⟩)) | refine wzf ?_ | (refine wzb ?_; intro b_) | fail)
    refine cx_cond rfl (fun h => absurd h (by decide)) (fun _ => ?_)
    refine cx_fact (fun w hm => own_cap 0 hm rfl) fun hco => ?_
    have hp := fr.put_fn A u.length c u rfl hco
    rw [fr.putR_ok (by omega)] at hp
    repeat (first | (refine isx_call ?_; (refine isx_call ?_; refine lx_call0 (hp) ((fun w hm => own_ro 0 hm rfl)) rfl rfl rfl rfl rfl rfl rfl rfl ?_; rintro v_ Lo_ ⟨A2, c2, rfl, rfl⟩)) | refine wz ?_ | (refine wzb ?_; intro b_) | fail)
    exact bq_ret (ret_tmp rfl rfl) [_] (Gives.pick [0] (by decide) rfl) rfl ⟨A2, c2, rfl, rfl⟩
/-- a step -/
structure SP where
  k : B8
  cl : Int
  bs : List B8
  op : EOp
  by_ : BitVec 64
abbrev zeroO : EOp := ⟨0#8, [], 0, 0⟩
/-- a step, as it lies in memory -/
structure MS where
  k : B8
  cl : Int
  r : Rw
  op : EOp
  by_ : BitVec 64
abbrev MS.cells (x : MS) : List Value := [.int .u8 x.k.toNat, .int .i64 x.cl, .slice x.r.A x.r.n x.r.c, .int .u8 x.op.k.toNat, .string (sb x.op.key), .int .i64 x.op.t, .int .i64 x.op.v, .int .u64 x.by_.toNat]
abbrev MS.val (x : MS) : Value := .agg #[.int .u8 x.k.toNat, .int .i64 x.cl, .slice x.r.A x.r.n x.r.c, .int .u8 x.op.k.toNat, .string (sb x.op.key), .int .i64 x.op.t, .int .i64 x.op.v, .int .u64 x.by_.toNat]
abbrev MS.body (x : MS) : Ck := .own x.r.A x.r.n x.r.c 5 1 (bvs x.r.l)
def MS.sp (x : MS) : SP := ⟨x.k, x.cl, x.r.l, x.op, x.by_⟩
abbrev nilr : Rw := ⟨none, 0, 0, []⟩
def valueQ (c : Nat) : Int := if c = 127 then 9223372036854775807 else if c = 128 then -9223372036854775808 else small c
/-- so many bytes from a place on -/
def rawQ (l : List B8) (v : Nat) : Nat → List B8
  | 0 => []
  | m + 1 => rawQ l v m ++ [BitVec.ofInt 8 ((at_ l (v + m) : Nat) : Int)]
theorem rawQ_len (l : List B8) (v : Nat) : ∀ m, (rawQ l v m).length = m
  | 0 => rfl
  | m + 1 => by rw [rawQ, List.length_append, rawQ_len l v m]; rfl
/-- a row of the table, from the byte at v on -/
def serveQ (l : List B8) (n v : Nat) : SP × Nat := (⟨3#8, (at_ l v % n : Nat), [], zeroO, 0#64⟩, v + 1)
def decodeQ (l : List B8) (n v : Nat) : SP × Nat := (⟨2#8, (at_ l v % n : Nat), [], zeroO, 0#64⟩, v + 1)
def feedQ (l : List B8) (n v : Nat) : SP × Nat := (⟨1#8, (at_ l v % n : Nat), rawQ l (v + 2) (at_ l (v + 1) % 16), zeroO, 0#64⟩, v + 2 + at_ l (v + 1) % 16)
def askQ (l : List B8) (n v : Nat) : SP × Nat := (⟨1#8, (at_ l v % n : Nat), frameQ (reqQ l (v + 1)).1, zeroO, 0#64⟩, (reqQ l (v + 1)).2)
def eventQ (l : List B8) (v : Nat) : SP × Nat := (⟨4#8, 0, [], ⟨1#8, keyQ (at_ l v), small (at_ l (v + 1)), valueQ (at_ l (v + 2))⟩, 0#64⟩, v + 3)
def markQ (l : List B8) (v : Nat) : SP × Nat := (⟨4#8, 0, [], ⟨2#8, [], small (at_ l v), 0⟩, 0#64⟩, v + 1)
def publishQ (v : Nat) : SP × Nat := (⟨5#8, 0, [], zeroO, 0#64⟩, v)
def tickQ (l : List B8) (v : Nat) : SP × Nat := (⟨6#8, 0, [], zeroO, BitVec.ofInt 64 ((at_ l v : Nat) : Int)⟩, v + 1)
def vacuumQ (v : Nat) : SP × Nat := (⟨7#8, 0, [], zeroO, 0#64⟩, v)
def rowQ (l : List B8) (n q v : Nat) : SP × Nat :=
  if q ≤ 1 then serveQ l n v else if q ≤ 3 then decodeQ l n v else if q = 4 then feedQ l n v else if q ≤ 8 then askQ l n v else if q ≤ 11 then eventQ l v else if q = 12 then markQ l v else if q = 13 then publishQ v else if q = 14 then tickQ l v else vacuumQ v
def stepQ (l : List B8) (n v : Nat) : SP × Nat := rowQ l n (at_ l v % 16) (v + 1)
/-- what a row's function leaves -/
def RowP {A : Option Addr} {l : List B8} (b n : Nat) (X : SP × Nat) (v : Value) (Lo : List Ck) : Prop := ∃ (x : MS) (r' : Rd A l), v = x.val ∧ x.sp = X.1 ∧ r'.v = X.2 ∧ x.r.l.length = x.r.n ∧ x.r.n ≤ 1000 ∧ Lo = [r'.blk b n, x.body]
section
variable (b n : Nat) {A : Option Addr} {l : List B8} (r : Rd A l) (hn : 0 < n) (hl : l.length ≤ 9223372036854775807)
include hn hl
theorem serve_fn : Fn Tryz.prog 67 [.pointer (some ⟨b, 0, none⟩)] [r.blk b n, .ro A l.length 1 (bvs l)] [b] (RowP (A := A) (l := l) b n (serveQ l n r.v)) := by
  have h := by_fn b n r n hn hl
  have hv := r.nx_v
  unfold serveQ
  generalize r.nx = r' at *
  refine fn_enter Tryz.func67 rfl rfl (by kernel_rfl) rfl ?_
  intro w0
  repeat (first | (refine isx_call ?_; refine k_call (h) [1, 2] [1] [0, 2] rfl rfl rfl rfl rfl rfl rfl rfl ?_; rintro v_ Lo_ ⟨rfl, rfl⟩) | (refine isx_store ?_; refine gS 1 rfl rfl rfl rfl rfl rfl rfl rfl rfl rfl ?_) | refine wz ?_ | (refine wzb ?_; intro b_) | fail)
  exact bq_ret (ret_cell (E := EV) 1 rfl rfl rfl rfl (fun _ => Nat.le_of_ble_eq_true rfl) rfl) [_, _] ((Gives.nilown _ 5 1).trans (Gives.pick [1, 0] (by decide) rfl)) rfl ⟨⟨3#8, _, nilr, zeroO, 0#64⟩, r', rfl, rfl, hv, rfl, Nat.zero_le _, rfl⟩
theorem decode_fn : Fn Tryz.prog 68 [.pointer (some ⟨b, 0, none⟩)] [r.blk b n, .ro A l.length 1 (bvs l)] [b] (RowP (A := A) (l := l) b n (decodeQ l n r.v)) := by
  have h := by_fn b n r n hn hl
  have hv := r.nx_v
  unfold decodeQ
  generalize r.nx = r' at *
  refine fn_enter Tryz.func68 rfl rfl (by kernel_rfl) rfl ?_
  intro w0
  repeat (first | (refine isx_call ?_; refine k_call (h) [1, 2] [1] [0, 2] rfl rfl rfl rfl rfl rfl rfl rfl ?_; rintro v_ Lo_ ⟨rfl, rfl⟩) | (refine isx_store ?_; refine gS 1 rfl rfl rfl rfl rfl rfl rfl rfl rfl rfl ?_) | refine wz ?_ | (refine wzb ?_; intro b_) | fail)
  exact bq_ret (ret_cell (E := EV) 1 rfl rfl rfl rfl (fun _ => Nat.le_of_ble_eq_true rfl) rfl) [_, _] ((Gives.nilown _ 5 1).trans (Gives.pick [1, 0] (by decide) rfl)) rfl ⟨⟨2#8, _, nilr, zeroO, 0#64⟩, r', rfl, rfl, hv, rfl, Nat.zero_le _, rfl⟩
theorem ask_fn : Fn Tryz.prog 70 [.pointer (some ⟨b, 0, none⟩)] [r.blk b n, .ro A l.length 1 (bvs l)] [b] (RowP (A := A) (l := l) b n (askQ l n r.v)) := by
  have h := by_fn b n r n hn hl
  have h2 := request_fn b n r.nx hl
  have hf := frame_fn (reqQ l r.nx.v).1
  have hle := frameQ_le (reqQ l r.nx.v).1
  rw [r.nx_v] at h2 hf hle
  unfold askQ
  generalize reqQ l (r.v + 1) = q at *
  generalize frameQ q.1 = u at *
  generalize r.nx = r' at *
  refine fn_enter Tryz.func70 rfl rfl (by kernel_rfl) rfl ?_
  intro w0
  repeat (first | (refine isx_call ?_; refine k_call (h) [1, 2] [1] [0, 2] rfl rfl rfl rfl rfl rfl rfl rfl ?_; rintro v_ Lo_ ⟨rfl, rfl⟩) | (refine isx_call ?_; refine k_call (h2) [0, 2] [0] [1, 2] rfl rfl rfl rfl rfl rfl rfl rfl ?_; rintro v_ Lo_ ⟨rfl, r2, hr2, rfl⟩) | (refine isx_call ?_; (refine isx_call ?_; refine lx_call0 (hf) (fun _ hm => in_nil hm) rfl rfl rfl rfl rfl rfl rfl rfl ?_; rintro v_ Lo_ ⟨A2, c2, rfl, rfl⟩)) | (refine isx_store ?_; refine gS 2 rfl rfl rfl rfl rfl rfl rfl rfl rfl rfl ?_) | refine wz ?_ | (refine wzb ?_; intro b_) | fail)
  exact bq_ret (ret_cell (E := EV) 2 rfl rfl rfl rfl (fun _ => Nat.le_of_ble_eq_true rfl) rfl) [_, _] (Gives.pick [1, 0] (by decide) rfl) rfl ⟨⟨1#8, _, ⟨A2, u.length, c2, u⟩, zeroO, 0#64⟩, r2, rfl, rfl, hr2, rfl, by dsimp only; omega, rfl⟩
end
section
variable (b n : Nat) {A : Option Addr} {l : List B8} (r : Rd A l) (hl : l.length ≤ 9223372036854775807)
include hl
theorem mark_fn : Fn Tryz.prog 72 [.pointer (some ⟨b, 0, none⟩)] [r.blk b n, .ro A l.length 1 (bvs l)] [b] (RowP (A := A) (l := l) b n (markQ l r.v)) := by
  have h := small_fn b n r hl
  have hv := r.nx_v
  have hat := eAt_fn (small (at_ l r.v))
  unfold markQ
  generalize small (at_ l r.v) = s at *
  generalize r.nx = r' at *
  refine fn_enter Tryz.func72 rfl rfl (by kernel_rfl) rfl ?_
  intro w0
  repeat (first | (refine isx_call ?_; refine k_call (h) [1, 2] [1] [0, 2] rfl rfl rfl rfl rfl rfl rfl rfl ?_; rintro v_ Lo_ ⟨rfl, rfl⟩) | (refine isx_call ?_; refine k_gcall (hat) (fun _ hm => in_nil hm) rfl rfl rfl rfl rfl rfl ?_) | (refine isx_store ?_; refine gS 1 rfl rfl rfl rfl rfl rfl rfl rfl rfl rfl ?_) | refine wz ?_ | (refine wzb ?_; intro b_) | fail)
  exact bq_ret (ret_cell (E := EV) 1 rfl rfl rfl rfl (fun _ => Nat.le_of_ble_eq_true rfl) rfl) [_, _] ((Gives.nilown _ 5 1).trans (Gives.pick [1, 0] (by decide) rfl)) rfl ⟨⟨4#8, 0, nilr, ⟨2#8, [], s, 0⟩, 0#64⟩, r', rfl, rfl, hv, rfl, Nat.zero_le _, rfl⟩
theorem tick_fn : Fn Tryz.prog 74 [.pointer (some ⟨b, 0, none⟩)] [r.blk b n, .ro A l.length 1 (bvs l)] [b] (RowP (A := A) (l := l) b n (tickQ l r.v)) := by
  have h := next_fn b n r hl
  have hv := r.nx_v
  unfold tickQ
  generalize at_ l r.v = s at *
  generalize r.nx = r' at *
  refine fn_enter Tryz.func74 rfl rfl (by kernel_rfl) rfl ?_
  intro w0
  repeat (first | ((first | (apply lx_u; exact rfl) | (apply lx_g; exact rfl; exact rfl)); first | (apply isy_convert; exact q_ci uk64 rfl rfl rfl) | fail) | (refine isx_call ?_; refine k_call (h) [1, 2] [1] [0, 2] rfl rfl rfl rfl rfl rfl rfl rfl ?_; rintro v_ Lo_ ⟨rfl, rfl⟩) | (refine isx_store ?_; refine gS 1 rfl rfl rfl rfl rfl rfl rfl rfl rfl rfl ?_) | refine wz ?_ | (refine wzb ?_; intro b_) | fail)
  exact bq_ret (ret_cell (E := EV) 1 rfl rfl rfl rfl (fun _ => Nat.le_of_ble_eq_true rfl) rfl) [_, _] ((Gives.nilown _ 5 1).trans (Gives.pick [1, 0] (by decide) rfl)) rfl ⟨⟨6#8, 0, nilr, zeroO, BitVec.ofInt 64 (s : Int)⟩, r', rfl, rfl, hv, rfl, Nat.zero_le _, rfl⟩
end
theorem publish_fn (b n : Nat) {A : Option Addr} {l : List B8} (r : Rd A l) : Fn Tryz.prog 73 [.pointer (some ⟨b, 0, none⟩)] [r.blk b n, .ro A l.length 1 (bvs l)] [b] (RowP (A := A) (l := l) b n (publishQ r.v)) := by
  refine fn_enter Tryz.func73 rfl rfl (by kernel_rfl) rfl ?_
  intro w0
  repeat (first | refine wz ?_ | (refine wzb ?_; intro b_) | fail)
  exact bq_ret (ret_cell (E := EV) 0 rfl rfl rfl rfl (fun _ => Nat.le_of_ble_eq_true rfl) rfl) [_, _] ((Gives.nilown _ 5 1).trans (Gives.pick [2, 0] (by decide) rfl)) rfl ⟨⟨5#8, 0, nilr, zeroO, 0#64⟩, r, rfl, rfl, rfl, rfl, Nat.zero_le _, rfl⟩
theorem vacuum_fn (b n : Nat) {A : Option Addr} {l : List B8} (r : Rd A l) : Fn Tryz.prog 75 [.pointer (some ⟨b, 0, none⟩)] [r.blk b n, .ro A l.length 1 (bvs l)] [b] (RowP (A := A) (l := l) b n (vacuumQ r.v)) := by
  refine fn_enter Tryz.func75 rfl rfl (by kernel_rfl) rfl ?_
  intro w0
  repeat (first | refine wz ?_ | (refine wzb ?_; intro b_) | fail)
  exact bq_ret (ret_cell (E := EV) 0 rfl rfl rfl rfl (fun _ => Nat.le_of_ble_eq_true rfl) rfl) [_, _] ((Gives.nilown _ 5 1).trans (Gives.pick [2, 0] (by decide) rfl)) rfl ⟨⟨7#8, 0, nilr, zeroO, 0#64⟩, r, rfl, rfl, rfl, rfl, Nat.zero_le _, rfl⟩
end Go.Proofs.YtmochicneilhhaaGreat.sc
