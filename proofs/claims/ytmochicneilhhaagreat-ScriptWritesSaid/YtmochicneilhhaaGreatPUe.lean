/- scripts: the chapter's examples. scripts: ScriptFrames, ScriptReads. scripts: the reference's bytes of a step. scripts: the reference's Write. -/
import Derived.Test.YtmochicneilhhaaGreatPGo
import Derived.Test.YtmochicneilhhaaGreatPRd
import Derived.Test.YtmochicneilhhaaGreatPTl
import Derived.Test.YtmochicneilhhaaGreatPUc
namespace Go.Proofs.YtmochicneilhhaaGreat.sc
open Go.RowKit Go.Proofs.YtmochicneilhhaaGreat.kit Go.Proofs.YtmochicneilhhaaGreat.pk Go.Proofs.YtmochicneilhhaaGreat.rq Go.Proofs.YtmochicneilhhaaGreat.ev Go.Proofs.YtmochicneilhhaaGreat.win
abbrev z9 : List B8 := [0#8, 0#8, 0#8, 0#8, 0#8, 0#8, 0#8, 0#8, 0#8]
abbrev wl1 : List B8 := z9 ++ [13#8, 9#8, 1#8, 3#8, 255#8, 15#8]
abbrev wl2 : List B8 := z9 ++ [5#8, 0#8, 7#8, 9#8]
abbrev oneC : Cf := ⟨1, 1, 0, 0, 0, 1, 1, 1, 1, 1, 1⟩
abbrev statQ : RQ := ⟨8#8, 9#32, 0#8, 0#16, 0#64, 0#64, 0#8, [], [], 0, 0⟩
theorem wc0 : cfgQ [] = oneC := rfl
theorem wc1 : cfgQ wl1 = oneC := rfl
theorem wc2 : cfgQ wl2 = oneC := rfl
theorem ws0 : readS [] (clientsQ []) 9 = [] := readS_ge (by decide)
theorem ws1 : readS wl1 (clientsQ wl1) 9 = [⟨5#8, 0, [], zeroO, 0#64⟩, ⟨4#8, 0, [], ⟨1#8, [98#8], 3, -1⟩, 0#64⟩, ⟨7#8, 0, [], zeroO, 0#64⟩] := by
  rw [readS_lt (by decide), show stepQ wl1 (clientsQ wl1) 9 = (⟨5#8, 0, [], zeroO, 0#64⟩, 10) from rfl]
  dsimp only
  rw [readS_lt (by decide), show stepQ wl1 (clientsQ wl1) 10 = (⟨4#8, 0, [], ⟨1#8, [98#8], 3, -1⟩, 0#64⟩, 14) from rfl]
  dsimp only
  rw [readS_lt (by decide), show stepQ wl1 (clientsQ wl1) 14 = (⟨7#8, 0, [], zeroO, 0#64⟩, 15) from rfl]
  dsimp only
  rw [readS_ge (by decide)]
theorem wr2 : reqQ wl2 11 = (statQ, 13) := rfl
theorem ws2 : readS wl2 (clientsQ wl2) 9 = [⟨1#8, 0, frameQ statQ, zeroO, 0#64⟩] := by
  rw [readS_lt (by decide), show stepQ wl2 (clientsQ wl2) 9 = askQ wl2 1 10 from rfl]
  unfold askQ
  rw [wr2]
  dsimp only
  rw [readS_ge (by decide)]
  rfl
theorem map1 {α β : Type} {f : α → β} {l : List α} {a : β} (h : l.map f = [a]) : ∃ x, l = [x] ∧ f x = a := by
  match l, h with
  | [x], h => exact ⟨x, rfl, by simpa using h⟩
theorem map3 {α β : Type} {f : α → β} {l : List α} {a b c : β} (h : l.map f = [a, b, c]) : ∃ x y z, l = [x, y, z] ∧ f x = a ∧ f y = b ∧ f z = c := by
  match l, h with
  | [x, y, z], h => exact ⟨x, y, z, rfl, by simpa using h⟩
theorem read_val {T : TypeId} {l : List B8} {v : Value} {Lo : List Ck} {c : Cf} (hc : cfgQ l = c) (h : ReadP T l v Lo) : ∃ A' c' xs, v = .tuple #[c.val, .slice A' (List.length xs) c'] ∧ xs.map MS.sp = readS l (clientsQ l) 9 ∧ Fit xs ∧ xs.length ≤ 16384 ∧ Lo = .own A' xs.length c' T 8 (scells xs) :: sbods xs := by
  obtain ⟨A', c', xs, h1, h2⟩ := h
  exact ⟨A', c', xs, by rw [h1, cfgQ_val, hc], h2⟩
attribute [local irreducible] LX CX Yl Gives RetIs Fn
attribute [local irreducible] be de fr.frm
set_option maxRecDepth 100000 in
set_option maxHeartbeats 8000000 in
theorem works_fn : Fn Tryz.prog 8 [] [] [] fun v Lo => v = .bool true ∧ Lo = [] := by
  have hr0 := (read_fn none 0 0 [] [] rfl ⟨Nat.le_refl _, by decide⟩ rfl).mono fun _ _ => read_val wc0
  have ho := ofTumbling_fn 1
  have hof := eOf_fn [98#8] 3 (-1)
  have hfr := frame_fn statQ
  refine fn_enter Tryz.func8 rfl rfl (by kernel_rfl) rfl ?_
  intro w0
  repeat (first | refine wz ?_ | (refine wzb ?_; intro b_) | fail)
  repeat (first | (refine isx_call ?_; (refine isx_call ?_; refine lx_call0 (hr0) ((fun w hm => in_ro Row.nil (in_nil hm) rfl)) rfl rfl rfl rfl rfl rfl rfl rfl ?_; rintro v_ Lo_ ⟨A1, c1, ls, rfl, hls, fit1, le1, rfl⟩)) | refine wzo ?_ | (refine wzb ?_; intro b_) | fail)
  rw [ws0] at hls
  obtain rfl : ls = [] := List.map_eq_nil_iff.1 hls
  generalize b_ = bc
  refine cx_weakL (L' := [.blk bc oneC.cells 34]) (Gives.pick [0] (by decide) rfl) ?_
  repeat (first | (refine isx_make ?_; (refine isx_make ?_; refine lx_make (E := EV) 9 rfl rfl rfl rfl rfl rfl rfl rfl rfl rfl rfl rfl rfl rfl (by decide) (by decide) ?_; intro b9)) | refine wz ?_ | (refine wzb ?_; intro b_) | fail)
  refine lx_appendR (E := EV) rfl rfl rfl rfl rfl rfl rfl rfl rfl rfl rfl rfl (xs := bvs z9) (news := bvs [13#8, 9#8, 1#8, 3#8, 255#8, 15#8]) (fun w hm => row_blk 1 rfl rfl hm) (fun w hm => row_blk 0 rfl rfl hm) bvs_one (by unfold maxLen; omega) (by decide) (fun h0 => absurd h0 (by decide)) (fun _ A3 c3 => ?_)
  rw [← bvs_append]
  refine lx_fact (fun w hm => own_cap 0 hm rfl) fun hc3 => ?_
  have hr1 := (read_fn A3 (9 + 6) c3 wl1 wl1 rfl hc3 rfl).mono fun _ _ => read_val wc1
  repeat (first | (refine isx_call ?_; (refine isx_call ?_; refine lx_call0 (hr1) ((fun w hm => own_ro 0 hm rfl)) rfl rfl rfl rfl rfl rfl rfl rfl ?_; rintro v_ Lo_ ⟨A5, c5, ms, rfl, hms, fit5, le5, rfl⟩)) | refine wzo ?_ | (refine wzb ?_; intro b_) | fail)
  rw [ws1] at hms
  obtain ⟨x, y, z, rfl, hx, hy, hz⟩ := map3 hms
  rename_i b15
  generalize b_ = b4
  refine cx_weakL (L' := [.blk b9 (List.replicate 9 (.int .u8 0)) 5, .own A5 3 c5 47 8 (scells [x, y, z]), .blk b4 oneC.cells 34, .blk bc oneC.cells 34]) (Gives.pick [7, 1, 0, 8] (by decide) rfl) ?_
  repeat (first | refine wz ?_ | (refine wzb ?_; intro b_) | fail)
  refine lx_appendR (E := EV) rfl rfl rfl rfl rfl rfl rfl rfl rfl rfl rfl rfl (xs := bvs z9) (news := bvs [5#8, 0#8, 7#8, 9#8]) (fun w hm => row_blk 1 rfl rfl hm) (fun w hm => row_blk 0 rfl rfl hm) bvs_one (by unfold maxLen; omega) (by decide) (fun h0 => absurd h0 (by decide)) (fun _ A6 c6 => ?_)
  rw [← bvs_append]
  refine lx_fact (fun w hm => own_cap 0 hm rfl) fun hc6 => ?_
  have hr2 := (read_fn A6 (9 + 4) c6 wl2 wl2 rfl hc6 rfl).mono fun _ _ => read_val wc2
  repeat (first | (refine isx_call ?_; (refine isx_call ?_; refine lx_call0 (hr2) ((fun w hm => own_ro 0 hm rfl)) rfl rfl rfl rfl rfl rfl rfl rfl ?_; rintro v_ Lo_ ⟨A7, c7, ns, rfl, hns, fit7, le7, rfl⟩)) | refine wzo ?_ | (refine wzb ?_; intro b_) | fail)
  rw [ws2] at hns
  obtain ⟨u, rfl, hu⟩ := map1 hns
  generalize b_ = b6
  refine cx_weakL (L' := [.blk bc oneC.cells 34, .blk b4 oneC.cells 34, .own A5 3 c5 47 8 (scells [x, y, z]), .own A7 1 c7 47 8 (scells [u]), u.body]) (Gives.pick [8, 7, 6, 1, 2] (by decide) rfl) ?_
  have hcc : oneC.eqB oneC = true := rfl
  repeat (first | refine wz ?_ | (refine wzb ?_; intro b_) | fail)
  refine cx_draw [1] _ rfl (by kernel_rfl) (Gives.refl _) ?_
  repeat (first | ((first | (apply lx_gt; exact rfl; exact rfl; exact rfl) | (apply lx_u; exact rfl) | (apply lx_g; exact rfl; exact rfl)); first | (apply isy_bin_neq; exact yl_false (yl_nes cfe_g rfl rfl (fun w => cfe oneC oneC w) (by first | exact fun _ => rfl | exact fun h => h | exact fun h => (Bool.and_eq_true_iff.1 h).1) (by first | exact fun _ => rfl | exact fun h => h | exact fun h => (Bool.and_eq_true_iff.1 h).1)) (fun _ => rfl)) | (apply isy_bin_neq; exact yl_false (yl_op (E := EV) rfl) (fun _ => rfl)) | fail) | (refine isx_call ?_; refine lx_gcallt (ho) (fun _ hm => in_nil hm) rfl rfl rfl rfl rfl rfl rfl ?_) | refine wzf ?_ | (refine wzb ?_; intro b_) | fail)
  refine cx_cond rfl (fun h => absurd h (by decide)) (fun _ => ?_)
  repeat (first | refine wz ?_ | (refine wzb ?_; intro b_) | fail)
  have hxk : x.k = 5#8 := congrArg SP.k hx
  have hyo : y.op = ⟨1#8, [98#8], 3, -1⟩ := congrArg SP.op hy
  have hzk : z.k = 7#8 := congrArg SP.k hz
  have hx0 : (scells [x, y, z])[mulI 0 8 + 0]? = some (.int .u8 5) := by show some (Value.int .u8 (x.k.toNat : Int)) = _; rw [hxk]; rfl
  have hz0 : (scells [x, y, z])[mulI 2 8 + 0]? = some (.int .u8 7) := by show some (Value.int .u8 (z.k.toNat : Int)) = _; rw [hzk]; rfl
  have hy3 : cellsAt (scells [x, y, z]) (mulI 1 8 + 3) 4 = (⟨1#8, [98#8], 3, -1⟩ : EOp).cells := by show y.op.cells = _; rw [hyo]
  have hu0 := scells_at (xs := [u]) (i := 0) rfl
  have hus : ∀ Af cf, u.sp.eqB (⟨1#8, 0, ⟨Af, (frameQ statQ).length, cf, frameQ statQ⟩, zeroO, 0#64⟩ : MS).sp = true := fun Af cf => by rw [hu]; exact SP.eqB_self _
  have hs := fun Af cf => (show Fn Tryz.prog 27 [u.val, (⟨1#8, 0, ⟨Af, (frameQ statQ).length, cf, frameQ statQ⟩, zeroO, 0#64⟩ : MS).val] [.ro u.r.A u.r.n 1 (bvs u.r.l), .ro Af (frameQ statQ).length 1 (bvs (frameQ statQ))] [] fun v Lo => v = .bool true ∧ Lo = [] from by
    have h := same_fn u ⟨1#8, 0, ⟨Af, (frameQ statQ).length, cf, frameQ statQ⟩, zeroO, 0#64⟩
    rw [hus Af cf] at h
    exact h)
  refine cx_draw [10, 25, 27] [.own A5 3 c5 47 8 (scells [x, y, z]), .own A7 1 c7 47 8 (scells [u])] rfl (by kernel_rfl) (Gives.pick [2, 3] (by decide) rfl) ?_
  repeat (first | ((first | (apply lx_gt; exact rfl; exact rfl; exact rfl) | (apply lx_u; exact rfl) | (apply lx_g; exact rfl; exact rfl)); first | (apply isy_indexAddr; exact q_ixo 0 rfl rfl rfl rfl rfl (hb := (fun _ => by simp))) | (apply isy_fieldAddr; exact q_fio 0 rfl rfl rfl rfl rfl rfl) | (apply isy_load; exact q_lio 0 rfl rfl rfl rfl hx0) | (apply isy_bin_eql; exact yl_true (yl_op (E := EV) rfl) (fun _ => rfl)) | (apply isy_load; exact q_lno 0 rfl rfl rfl rfl hy3 rfl rfl) | (apply isy_bin_eql; exact yl_true (yl_eqs op_eq_g rfl rfl (fun w => op_eq ⟨1#8, [98#8], 3, -1⟩ ⟨1#8, [98#8], 3, -1⟩ w) (by first | exact fun _ => rfl | exact fun h => h | exact fun h => (Bool.and_eq_true_iff.1 h).1) (by first | exact fun _ => rfl | exact fun h => h | exact fun h => (Bool.and_eq_true_iff.1 h).1)) (fun _ => rfl)) | (apply isy_load; exact q_lio 0 rfl rfl rfl rfl hz0) | (apply isy_indexAddr; exact q_ixo 1 rfl rfl rfl rfl rfl (hb := (fun _ => by simp))) | (apply isy_load; exact q_lno 1 rfl rfl rfl rfl hu0 rfl rfl) | fail) | (refine isx_call ?_; refine lx_gcallt (hof) (fun _ hm => in_nil hm) rfl rfl rfl rfl rfl rfl rfl ?_) | (refine isx_call ?_; (refine isx_call ?_; refine lx_call0 (hfr) (fun _ hm => in_nil hm) rfl rfl rfl rfl rfl rfl rfl rfl ?_; rintro v_ Lo_ ⟨A8, c8, rfl, rfl⟩)) | refine wzf ?_ | (refine wzb ?_; intro b_) | fail)
  repeat (first | (refine isx_call ?_; refine lx_gcallt ((hs A8 c8)) ((fun w hm => in_ro (row_own 5 rfl hm) (in_ro (row_own 0 rfl hm) (in_nil hm) rfl) rfl)) rfl rfl rfl rfl rfl rfl rfl ?_) | refine wzf ?_ | (refine wzb ?_; intro b_) | fail)
  exact bq_ret (ret_tmp rfl rfl) [] (Gives.nil _) rfl ⟨rfl, rfl⟩
end Go.Proofs.YtmochicneilhhaaGreat.sc
namespace Go.Proofs.YtmochicneilhhaaGreat.sc
open Go.RowKit Go.Proofs.YtmochicneilhhaaGreat.kit Go.Proofs.YtmochicneilhhaaGreat.pk Go.Proofs.YtmochicneilhhaaGreat.rq Go.Proofs.YtmochicneilhhaaGreat.ev Go.Proofs.YtmochicneilhhaaGreat.win
section
variable {P : Program} {n : Nat} {M : Me} {Q : Post} {t : Fr} {L : List Ck} {ops : Array Oper} {s : Way} {i : Nat} {rest : List Oper}
end
theorem Gives.mid {c : Ck} {S T : List Ck} : Gives ((c :: S) ++ T) (c :: (T ++ S)) := Gives.perm (show ([c] ++ S ++ T).Perm ([c] ++ (T ++ S)) by rw [List.append_assoc]; exact List.Perm.append_left _ List.perm_append_comm)
attribute [local irreducible] LX CX Yl Gives RetIs Fn
attribute [local irreducible] be de fr.frm
end Go.Proofs.YtmochicneilhhaaGreat.sc
namespace Go.Proofs.YtmochicneilhhaaGreat.sc
open Go.RowKit Go.Proofs.YtmochicneilhhaaGreat.kit Go.Proofs.YtmochicneilhhaaGreat.pk Go.Proofs.YtmochicneilhhaaGreat.rq Go.Proofs.YtmochicneilhhaaGreat.ev Go.Proofs.YtmochicneilhhaaGreat.win
theorem Gives.one {L : List Ck} {d : Ck} (h : d ∈ L) : Gives L [d] := by
  obtain ⟨k, hk⟩ := List.getElem?_of_mem h
  exact Gives.pick [k] (List.nodup_cons.2 ⟨List.not_mem_nil, List.nodup_nil⟩) (by unfold pickL; simp [hk])
theorem rwv_at {rs : List Rw} {i : Nat} {r : Rw} (h : rs[i]? = some r) : (rwv rs)[mulI ((i : Nat) : Int).toNat 1]? = some (.slice r.A r.n r.c) := by
  show (rwv rs)[i]? = _
  unfold rwv
  rw [List.getElem?_map, h]
  rfl
def RWriteP (n : Nat) (x : SP) (v : Value) (Lo : List Ck) : Prop := ∃ (A : Option Addr) (c : Nat) (b : List B8) (ok : Bool), v = .tuple #[.slice A b.length c, .bool ok] ∧ writeR n x = (if ok then some b else none) ∧ b.length ≤ 1100000 ∧ Lo = [.own A b.length c 5 1 (bvs b)]
structure LookSt (n : Nat) (x : SP) (rs : List Rw) where
  i : Nat
  hi : i ≤ rs.length
  no : ∀ j, j < i → ∀ r, rs[j]? = some r → testG n x r.l = false
theorem look_none {n : Nat} {x : SP} {rs : List Rw} (hg : rs.map Rw.l = guessesQ x) (h : ∀ j, j < rs.length → ∀ r, rs[j]? = some r → testG n x r.l = false) : writeR n x = none := by
  unfold writeR
  rw [← hg, List.find?_eq_none]
  intro g hgm
  obtain ⟨r, hr, rfl⟩ := List.mem_map.1 hgm
  obtain ⟨j, hj⟩ := List.getElem?_of_mem hr
  have := h j (by rw [List.getElem?_eq_some_iff] at hj; exact hj.1) r hj
  rw [this]
  decide
theorem look_some {n : Nat} {x : SP} {rs : List Rw} {i : Nat} {r : Rw} (hg : rs.map Rw.l = guessesQ x) (h : ∀ j, j < i → ∀ r, rs[j]? = some r → testG n x r.l = false) (hi : rs[i]? = some r) (ht : testG n x r.l = true) : writeR n x = some r.l := by
  unfold writeR
  rw [← hg, List.find?_eq_some_iff_getElem]
  obtain ⟨hlt, he⟩ := List.getElem?_eq_some_iff.1 hi
  refine ⟨ht, i, by rw [List.length_map]; exact hlt, by rw [List.getElem_map, he], fun j hj => ?_⟩
  rw [List.getElem_map, h j hj _ (List.getElem?_eq_getElem (by omega))]
  rfl
attribute [local irreducible] LX CX Yl Gives RetIs Fn
attribute [local irreducible] be de fr.frm fr.takeF
set_option maxRecDepth 100000 in
set_option maxHeartbeats 8000000 in
theorem rwrite_fn (x : MS) (n : Nat) (hn0 : 0 < n) (hx : x.r.l.length = x.r.n) (hc : x.r.n ≤ x.r.c ∧ x.r.c ≤ 9223372036854775807) (hn : x.r.n ≤ 1000000) : Fn Tryz.prog 55 [x.val, .int .i64 n] [.ro x.r.A x.r.n 1 (bvs x.r.l)] [] (RWriteP n x.sp) := by
  have hg := rguesses_fn x hx hc hn
  unfold GuessP at hg
  refine fn_enter Tryz.func55 rfl rfl (by kernel_rfl) rfl ?_; intro w0
  repeat (first | refine wz ?_ | (refine wzb ?_; intro b_) | fail)
  generalize b_ = b2
  repeat (first | (refine isx_call ?_; (refine isx_call ?_; refine lx_call0 (hg) ((fun w hm => in_ro (row_ro 1 rfl hm) (in_nil hm) rfl)) rfl rfl rfl rfl rfl rfl rfl rfl ?_; rintro v_ Lo_ ⟨A0, c0, rs, rfl, hgs, fit, few, rfl⟩)) | refine wz ?_ | (refine wzb ?_; intro b_) | fail)
  refine cx_weakL (Gives.mid (S := rbods rs) (T := [.blk b2 x.cells 68, .ro x.r.A x.r.n 1 (bvs x.r.l)])) ?_
  refine cx_loop (α := LookSt n x.sp rs) (fun s => [(1, none, .int .i64 n), (2, none, .pointer (some ⟨b2, 0, none⟩)), (6, none, .slice A0 rs.length c0), (7, none, .int .i64 s.i)])
    (fun _ => [.own A0 rs.length c0 22 1 (rwv rs), .blk b2 x.cells 68, .ro x.r.A x.r.n 1 (bvs x.r.l)] ++ rbods rs) (fun s => rs.length - s.i)
    ⟨0, Nat.zero_le _, fun j hj => absurd hj (Nat.not_lt_zero j)⟩ ⟨rfl, rfl, rfl, rfl, trivial⟩ (Gives.refl _) ?_
  rintro ⟨i, hi, no⟩
  dsimp only
  repeat (first | refine wz ?_ | (refine wzb ?_; intro b_) | fail)
  refine cx_cond rfl (fun h => ?_) (fun h => ?_)
  · have hlt : i < rs.length := by simp at h; omega
    clear h
    obtain ⟨r, hr⟩ : ∃ r, rs[i]? = some r := ⟨_, List.getElem?_eq_getElem hlt⟩
    have hmem := List.mem_of_getElem? hr
    have hfr := fit r hmem
    have hst := rstep_fn r.A r.n r.c r.l hfr.1 0 (j := 0) rfl (by omega) n hn0
    have hr1 := rwv_at hr
    have hrb : ∀ (L0 : List Ck), rbody r ∈ L0 ++ rbods rs := fun L0 => List.mem_append.2 (.inr (rbods_mem hmem))
    repeat (first | ((first | (apply lx_u; exact rfl) | (apply lx_g; exact rfl; exact rfl)); first | (apply isy_indexAddr; exact q_ixo 0 rfl rfl rfl rfl rfl) | (apply isy_load; exact q_lio 0 rfl rfl rfl rfl hr1) | (apply isy_indexAddr; exact q_ixo 2 rfl rfl rfl rfl rfl) | (apply isy_load; exact q_lio 2 rfl rfl rfl rfl hr1) | fail) | (refine isx_call ?_; (refine isx_call ?_; refine lx_call0 (hst) ((fun w hm => in_ro (rbody_row (hrb _) hm) (in_nil hm) rfl)) rfl rfl rfl rfl rfl rfl rfl rfl ?_; rintro v_ Lo_ ⟨y, rfl, hy, hy1, hy2, rfl⟩)) | (refine isx_call ?_; refine k_gcall ((rsame_fn x y hx hy1 (by omega))) ((fun w hm => in_ro (row_ro 4 rfl hm) (in_ro (row_own 1 rfl hm) (in_nil hm) rfl) rfl)) rfl rfl rfl rfl rfl rfl ?_) | refine wz ?_ | (refine wzb ?_; intro b_) | fail)
    have htq : testG n x.sp r.l = ((((stepQ r.l n 0).2 : Nat) : Int) == ((r.n : Nat) : Int) && x.sp.eqB y.sp) := by
      unfold testG
      rw [hfr.1, hy]
      refine congrArg (· && _) ?_
      rw [Bool.eq_iff_iff, beq_iff_eq, beq_iff_eq]
      omega
    refine cx_cond rfl (fun h => ?_) (fun h => ?_)
    · have ht : testG n x.sp r.l = true := by rw [htq]; exact h
      have hws := look_some hgs no hr ht
      repeat (first | ((first | (apply lx_u; exact rfl) | (apply lx_g; exact rfl; exact rfl)); first | (apply isy_indexAddr; exact q_ixo 2 rfl rfl rfl rfl rfl) | (apply isy_load; exact q_lio 2 rfl rfl rfl rfl hr1) | fail) | refine wz ?_ | (refine wzb ?_; intro b_) | fail)
      refine bq_ret (ret_tmp2 rfl rfl rfl) [rbody r] (Gives.one (hrb [_, _, _, _, _])) rfl ⟨r.A, r.c, r.l, true, by rw [hfr.1], by rw [hws]; rfl, by rw [hfr.1]; exact hfr.2, by rw [hfr.1]⟩
    · have ht : testG n x.sp r.l = false := by rw [htq]; exact h
      repeat (first | refine wz ?_ | (refine wzb ?_; intro b_) | fail)
      refine ⟨⟨i + 1, hlt, fun j hj r' hr' => ?_⟩, ⟨rfl, rfl, rfl, slot_int (by dsimp only; omega), trivial⟩, Gives.pre [_, _, _, _, _] [2, 3, 4] (by decide) rfl rfl, by dsimp only; omega⟩
      by_cases hji : j = i
      · rw [hji, hr] at hr'
        cases hr'
        exact ht
      · exact no j (by omega) r' hr'
  · have hii : i = rs.length := by simp at h; omega
    have hno := look_none hgs (by rw [← hii]; exact no)
    repeat (first | refine wz ?_ | (refine wzb ?_; intro b_) | fail)
    exact bq_ret (ret_tmp2 rfl rfl rfl) [_] ((Gives.nilown _ _ _).trans (Gives.pick [0] (by decide) rfl)) rfl ⟨none, 0, [], false, rfl, by rw [hno]; rfl, Nat.zero_le _, rfl⟩
end Go.Proofs.YtmochicneilhhaaGreat.sc
namespace Go.Proofs.YtmochicneilhhaaGreat.sc
open Go.RowKit Go.Proofs.YtmochicneilhhaaGreat.kit Go.Proofs.YtmochicneilhhaaGreat.pk Go.Proofs.YtmochicneilhhaaGreat.rq Go.Proofs.YtmochicneilhhaaGreat.ev Go.Proofs.YtmochicneilhhaaGreat.win
theorem writeW_bad {c : Cf} {l : List SP} (i : Nat) (h : ((l.take i).foldl (wstep c.cl) (wcfg c)).2 = true) : (writeW c l).2 = true := by
  have e : writeW c l = (l.drop i).foldl (wstep c.cl) ((l.take i).foldl (wstep c.cl) (wcfg c)) := by
    unfold writeW
    rw [← List.foldl_append, List.take_append_drop]
  rw [e]
  have hem : Em fun w => (l.drop i).foldl (wstep c.cl) w := em_fold (fun x => em_step c.cl x) _
  have h2 := hem ((l.take i).foldl (wstep c.cl) (wcfg c))
  dsimp only at h2
  rw [h2, h]
  rfl
theorem writeQ_bad {c : Cf} {l : List SP} (i : Nat) (h : ((l.take i).foldl (wstep c.cl) (wcfg c)).2 = true) : writeQ c l = ([], 2) := by
  unfold writeQ
  rw [if_pos (writeW_bad i h)]
structure OutSt (c : Cf) (xs : List MS) where
  i : Nat
  A' : Option Addr
  c' : Nat
  hi : i ≤ xs.length
  ok : (((xs.take i).map MS.sp).foldl (wstep c.cl) (wcfg c)).2 = false
attribute [local irreducible] LX CX Yl Gives RetIs Fn
attribute [local irreducible] be de fr.frm fr.takeF
set_option maxRecDepth 100000 in
set_option maxHeartbeats 8000000 in
theorem rWrite_fn (c : Cf) (A : Option Addr) (n cc : Nat) (xs : List MS) (hl : xs.length = n) (hn : n ≤ 1000000) (hf : Fit2 xs) (hsp : ∀ x ∈ xs, x.r.l.length = x.r.n) : Fn Tryz.prog 24 [c.val, .slice A n cc] [Ck.sts A n xs] []
    fun v Lo => ∃ A' c', v = .tuple #[.slice A' (writeQ c (xs.map MS.sp)).1.length c', .int .i64 (writeQ c (xs.map MS.sp)).2] ∧ Lo = [.own A' (writeQ c (xs.map MS.sp)).1.length c' 5 1 (bvs (writeQ c (xs.map MS.sp)).1)] := by
  subst hl
  have hlen : ∀ i, ((((xs.take i).map MS.sp).foldl (wstep c.cl) (wcfg c)).1).length ≤ 2000000000000 := fun i => by
    have hw9 := wcfg_len c
    have h := wsteps_len c.cl ((xs.take i).map MS.sp) (wcfg c) (fun y hy => by
      obtain ⟨x, hx, rfl⟩ := List.mem_map.1 hy
      have h1 := hf x (List.mem_of_mem_take hx)
      have h2 := hsp x (List.mem_of_mem_take hx)
      show x.r.l.length ≤ _
      omega)
    rw [List.length_map, List.length_take] at h
    omega
  have hgu := rguess_fn c
  have hgl : (guessQ c).length = 9 := rfl
  have hcf := fun b => rconfig_fn (some ⟨b, 0, none⟩) 9 9 (guessQ c) hgl
  have hcmp := fun w => rcfe (cfgQ (guessQ c)) c w
  have hval := cfgQ_val (guessQ c)
  generalize hG : guessQ c = G at *
  rw [hval] at hcf
  by_cases he : cfgQ G = c
  · have hfl : (wcfg c).2 = false := by rw [← he]; exact cfg_flag G
    have hwc : wcfg c = (G, false) := by rw [← hG]; exact cfg_same hfl
    obtain ⟨m, hm1, hm8, hcl⟩ : ∃ m : Nat, 1 ≤ m ∧ m ≤ 8 ∧ c.cl = m := ⟨at_ G 7 % 8 + 1, by omega, by omega, by
      have h1 : (cfgQ G).cl = ((at_ G 7 % 8 : Nat) : Int) + 1 := rfl
      rw [he] at h1
      rw [h1]
      rfl⟩
    have hst0 : ((xs.take 0).map MS.sp).foldl (wstep c.cl) (wcfg c) = (G, false) := hwc
    rw [he] at hcf hcmp
    refine fn_enter Tryz.func24 rfl rfl (by kernel_rfl) rfl ?_; intro w0
    repeat (first | (refine isx_call ?_; (refine isx_call ?_; refine lx_call0 (hgu) (fun _ hm => in_nil hm) rfl rfl rfl rfl rfl rfl rfl rfl ?_; rintro v_ Lo_ ⟨b6, rfl, rfl⟩)) | refine wz ?_ | (refine wzb ?_; intro b_) | fail)
    generalize b_ = b2
    refine cx_weakL (Gives.blkown (m := 9) (sz := 1) 0 rfl (by rw [bvs_len, hgl]) (by decide)) ?_
    have hcf6 := hcf b6
    repeat (first | refine wz ?_ | (refine wzb ?_; intro b_) | fail)
    refine cx_draw [1] _ rfl (by kernel_rfl) (Gives.refl _) ?_
    repeat (first | ((first | (apply lx_gt; exact rfl; exact rfl; exact rfl) | (apply lx_u; exact rfl) | (apply lx_g; exact rfl; exact rfl)); first | (apply isy_bin_neq; exact yl_false (yl_nes rcfe_g rfl rfl hcmp (by first | exact fun _ => rfl | exact fun h => h | exact fun h => (Bool.and_eq_true_iff.1 h).1) (by first | exact fun _ => rfl | exact fun h => h | exact fun h => (Bool.and_eq_true_iff.1 h).1)) (fun _ => by rw [Cf.eqB_self]; rfl)) | fail) | (refine isx_call ?_; refine lx_gcallt (hcf6) ((fun w hm => in_ro (row_own 0 rfl hm) (in_nil hm) rfl)) rfl rfl rfl rfl rfl rfl rfl ?_) | refine wzf ?_ | (refine wzb ?_; intro b_) | fail)
    refine cx_cond rfl (fun h => absurd h (by decide)) (fun _ => ?_)
    repeat (first | refine wz ?_ | (refine wzb ?_; intro b_) | fail)
    refine cx_loop (α := OutSt c xs) (fun x => [(1, none, .slice A xs.length cc), (2, none, .pointer (some ⟨b2, 0, none⟩)), (6, none, .slice x.A' (((xs.take x.i).map MS.sp).foldl (wstep c.cl) (wcfg c)).1.length x.c'), (7, none, .int .i64 x.i)])
      (fun x => [.own x.A' (((xs.take x.i).map MS.sp).foldl (wstep c.cl) (wcfg c)).1.length x.c' 5 1 (bvs (((xs.take x.i).map MS.sp).foldl (wstep c.cl) (wcfg c)).1), .blk b2 c.cells 28, Ck.sts A xs.length xs]) (fun x => xs.length - x.i)
      ⟨0, some ⟨b6, 0, none⟩, 9, Nat.zero_le _, hfl⟩ ⟨rfl, rfl, by dsimp only; rw [hst0, ← hgl]; rfl, rfl, trivial⟩ (by dsimp only; rw [hst0]; dsimp only; rw [hgl]; exact Gives.refl _) ?_
    rintro ⟨i, A', c', hi, hok⟩
    dsimp only at hi hok ⊢
    have hli := hlen i
    have hqb := writeQ_bad (c := c) (l := xs.map MS.sp) (i + 1)
    rw [← List.map_take] at hqb
    generalize hw : ((xs.take i).map MS.sp).foldl (wstep c.cl) (wcfg c) = w at *
    repeat (first | refine wz ?_ | (refine wzb ?_; intro b_) | fail)
    refine cx_cond rfl (fun h => ?_) (fun h => ?_)
    · have hlt : i < xs.length := by simp at h; omega
      clear h
      obtain ⟨x, hx⟩ : ∃ x, xs[i]? = some x := ⟨_, List.getElem?_eq_getElem hlt⟩
      have hfx := hf x (List.mem_of_getElem? hx)
      have hnx : ((xs.take (i + 1)).map MS.sp).foldl (wstep c.cl) (wcfg c) = wstep c.cl w x.sp := by
        rw [List.take_add_one, hx, List.map_append, List.foldl_append, hw]
        rfl
      have hem := em_step c.cl x.sp w
      dsimp only at hem
      rw [hok, Bool.false_or] at hem
      rw [hnx, hem] at hqb
      refine cx_fact (fun w hm => sts_ok 2 rfl hx hm) fun hk => ?_
      have hrw := rwrite_fn x m (by omega) hk.1 hk.2 hfx.1
      rw [← hcl] at hrw
      refine cx_weakL ((Gives.stsAt 2 rfl hx).trans (Gives.sts 3 rfl)) ?_
      have hcell := scells_at hx
      repeat (first | refine wz ?_ | (refine wzb ?_; intro b_) | fail)
      refine cx_draw [6] _ rfl (by kernel_rfl) (Gives.refl _) ?_
      repeat (first | ((first | (apply lx_u; exact rfl) | (apply lx_g; exact rfl; exact rfl)); first | (apply isy_indexAddr; exact q_ix 0 rfl rfl rfl rfl rfl) | (apply isy_load; exact q_ln 0 rfl rfl rfl rfl hcell rfl rfl) | (apply isy_load; exact q_lr 3 rfl rfl rfl rfl rfl) | fail) | (refine isx_call ?_; (refine isx_call ?_; refine lx_call0 (hrw) ((fun w hm => in_ro (row_ro 1 rfl hm) (in_nil hm) rfl)) rfl rfl rfl rfl rfl rfl rfl rfl ?_; rintro v_ Lo_ ⟨Ab, cb, b, ok, rfl, hwr, hbl, rfl⟩)) | refine wz ?_ | (refine wzb ?_; intro b_) | fail)
      have hwb := @write_bad m ⟨hm1, hm8⟩ x.sp
      have hwg := @write_good m ⟨hm1, hm8⟩ x.sp
      rw [← hcl] at hwb hwg
      generalize wstep c.cl ([], false) x.sp = z at *
      obtain ⟨zb, zf⟩ := z
      dsimp only at hem hqb hwb hwg
      cases zf with
      | true =>
        rw [hwb rfl] at hwr
        have hko : ok = false := by cases ok; rfl; cases hwr
        subst hko
        rw [hqb rfl]
        repeat (first | refine wzt ?_ | (refine wzb ?_; intro b_) | fail)
        refine cx_cond rfl (fun _ => ?_) (fun h => absurd h (by decide))
        repeat (first | refine wz ?_ | (refine wzb ?_; intro b_) | fail)
        exact bq_ret (ret_tmp2 rfl rfl rfl) [_] ((Gives.nilown _ _ _).trans (Gives.pick [0] (by decide) rfl)) rfl ⟨none, 0, rfl, rfl⟩
      | false =>
        rw [hwg rfl] at hwr
        have hko : ok = true := by cases ok; cases hwr; rfl
        subst hko
        have hzb : zb = b := by simpa using hwr
        subst hzb
        repeat (first | refine wzt ?_ | (refine wzb ?_; intro b_) | fail)
        refine cx_cond rfl (fun h => absurd h (by decide)) (fun _ => ?_)
        repeat (first | (refine isx_blt ?_; refine lx_appB (E := EV) 3 w.1 zb rfl rfl rfl rfl rfl rfl rfl rfl rfl rfl rfl rfl rfl (fun w hm => row_own 0 rfl hm) (by simp only [List.length_append, pk.be_len, pk.txt_len, List.length_cons, List.length_nil]; omega) (fun _ _ _ => trivial) ?_; intro A_ c_) | refine wz ?_ | (refine wzb ?_; intro b_) | fail)
        refine ⟨⟨i + 1, A_, c_, hlt, by rw [hnx, hem]⟩, ⟨rfl, rfl, by dsimp only; rw [hnx, hem]; rfl, slot_int (by dsimp only; omega), trivial⟩, by dsimp only; rw [hnx, hem]; exact Gives.pick [3, 4, 5] (by decide) rfl, by dsimp only; omega⟩
    · have hii : i = xs.length := by simp at h; omega
      rw [hii, List.take_length] at hw
      have hq : writeQ c (xs.map MS.sp) = if w.1.length > 16384 then ([], 3) else (w.1, 0) := by
        unfold writeQ writeW
        rw [hw, hok]
        exact if_neg (by decide)
      rw [hq]
      repeat (first | refine wz ?_ | (refine wzb ?_; intro b_) | fail)
      refine cx_cond rfl (fun h => ?_) (fun h => ?_)
      · rw [if_pos (by simp at h; omega)]
        repeat (first | refine wz ?_ | (refine wzb ?_; intro b_) | fail)
        exact bq_ret (ret_tmp2 rfl rfl rfl) [_] ((Gives.nilown _ _ _).trans (Gives.pick [0] (by decide) rfl)) rfl ⟨none, 0, rfl, rfl⟩
      · rw [if_neg (by simp at h; omega)]
        repeat (first | refine wz ?_ | (refine wzb ?_; intro b_) | fail)
        exact bq_ret (ret_tmp2 rfl rfl rfl) [_] (Gives.pick [0] (by decide) rfl) rfl ⟨A', c', rfl, rfl⟩
  · have hbad : (wcfg c).2 = true := by
      by_cases h0 : (wcfg c).2 = false
      · have := cfg_back h0 []
        rw [List.append_nil, hG] at this
        exact absurd this he
      · simpa using h0
    have hq : writeQ c (xs.map MS.sp) = ([], 2) := writeQ_bad 0 hbad
    have hne : (cfgQ G).eqB c = false := by
      cases h0 : (cfgQ G).eqB c with
      | false => rfl
      | true => exact absurd ((Cf.eqB_iff _ _).1 h0) he
    rw [hq]
    refine fn_enter Tryz.func24 rfl rfl (by kernel_rfl) rfl ?_; intro w0
    repeat (first | (refine isx_call ?_; (refine isx_call ?_; refine lx_call0 (hgu) (fun _ hm => in_nil hm) rfl rfl rfl rfl rfl rfl rfl rfl ?_; rintro v_ Lo_ ⟨b6, rfl, rfl⟩)) | refine wz ?_ | (refine wzb ?_; intro b_) | fail)
    refine cx_weakL (Gives.blkown (m := 9) (sz := 1) 0 rfl (by rw [bvs_len, hgl]) (by decide)) ?_
    have hcf6 := hcf b6
    repeat (first | refine wz ?_ | (refine wzb ?_; intro b_) | fail)
    refine cx_draw [1] _ rfl (by kernel_rfl) (Gives.refl _) ?_
    repeat (first | ((first | (apply lx_gt; exact rfl; exact rfl; exact rfl) | (apply lx_u; exact rfl) | (apply lx_g; exact rfl; exact rfl)); first | (apply isy_bin_neq; exact yl_true (yl_nes rcfe_g rfl rfl hcmp (by first | exact fun _ => rfl | exact fun h => h | exact fun h => (Bool.and_eq_true_iff.1 h).1) (by first | exact fun _ => rfl | exact fun h => h | exact fun h => (Bool.and_eq_true_iff.1 h).1)) (fun _ => by rw [hne]; rfl)) | fail) | (refine isx_call ?_; refine lx_gcallt (hcf6) ((fun w hm => in_ro (row_own 0 rfl hm) (in_nil hm) rfl)) rfl rfl rfl rfl rfl rfl rfl ?_) | refine wzf ?_ | (refine wzb ?_; intro b_) | fail)
    refine cx_cond rfl (fun _ => ?_) (fun h => absurd h (by decide))
    repeat (first | refine wz ?_ | (refine wzb ?_; intro b_) | fail)
    exact bq_ret (ret_tmp2 rfl rfl rfl) [_] ((Gives.nilown _ _ _).trans (Gives.pick [0] (by decide) rfl)) rfl ⟨none, 0, rfl, rfl⟩
end Go.Proofs.YtmochicneilhhaaGreat.sc
