/- scripts: what the statements share. scripts: the chapter's examples. -/
import Derived.Test.YtmochicneilhhaaGreatPGo
import Derived.Test.YtmochicneilhhaaGreatPTk
namespace Go.Proofs.YtmochicneilhhaaGreat.sc
open Go.RowKit Go.Proofs.YtmochicneilhhaaGreat.kit Go.Proofs.YtmochicneilhhaaGreat.pk Go.Proofs.YtmochicneilhhaaGreat.rq Go.Proofs.YtmochicneilhhaaGreat.ev Go.Proofs.YtmochicneilhhaaGreat.win
/-- a configuration -/
structure Cf where
  k : Int
  s : Int
  l : Int
  g : Int
  la : Int
  ca : Int
  pg : Int
  bu : Int
  qu : Int
  cl : Int
  le : Int
abbrev Cf.cells (c : Cf) : List Value := [.int .u8 c.k, .int .i64 c.s, .int .i64 c.l, .int .i64 c.g, .int .i64 c.la, .int .i64 c.ca, .int .i64 c.pg, .int .i64 c.bu, .int .i64 c.qu, .int .i64 c.cl, .int .i64 c.le]
abbrev Cf.val (c : Cf) : Value := .agg #[.int .u8 c.k, .int .i64 c.s, .int .i64 c.l, .int .i64 c.g, .int .i64 c.la, .int .i64 c.ca, .int .i64 c.pg, .int .i64 c.bu, .int .i64 c.qu, .int .i64 c.cl, .int .i64 c.le]
def Cf.eqB (c d : Cf) : Bool := c.k == d.k && (c.s == d.s && (c.l == d.l && (c.g == d.g && (c.la == d.la && (c.ca == d.ca && (c.pg == d.pg && (c.bu == d.bu && (c.qu == d.qu && (c.cl == d.cl && c.le == d.le)))))))))
theorem Cf.eqB_iff (c d : Cf) : c.eqB d = true ↔ c = d := by
  obtain ⟨a1, a2, a3, a4, a5, a6, a7, a8, a9, a10, a11⟩ := c
  obtain ⟨b1, b2, b3, b4, b5, b6, b7, b8, b9, b10, b11⟩ := d
  simp only [Cf.eqB, Bool.and_eq_true, beq_iff_eq, Cf.mk.injEq]
theorem Cf.eqB_self (c : Cf) : c.eqB c = true := (Cf.eqB_iff c c).2 rfl
theorem cfe (c d : Cf) (w : World) : (binOp .eql 34 c.val d.val).run Tryz.prog w = .ok (.bool (c.eqB d)) w := by
  go_simp
  unfold Cf.eqB
  exact chain rfl (chain rfl (chain rfl (chain rfl (chain rfl (chain rfl (chain rfl (chain rfl (chain rfl (chain rfl (chain1 rfl))))))))))
theorem cfe_g : Tryz.prog.eqGuardType Tryz.prog.depth 34 = false := by kernel_rfl
theorem rcfe (c d : Cf) (w : World) : (binOp .eql 28 c.val d.val).run Tryz.prog w = .ok (.bool (c.eqB d)) w := by
  go_simp
  unfold Cf.eqB
  exact chain rfl (chain rfl (chain rfl (chain rfl (chain rfl (chain rfl (chain rfl (chain rfl (chain rfl (chain rfl (chain1 rfl))))))))))
theorem rcfe_g : Tryz.prog.eqGuardType Tryz.prog.depth 28 = false := by kernel_rfl
/-- the configuration that bytes tell -/
def cfgQ (l : List B8) : Cf := ⟨(winQ (at_ l 0) (at_ l 1)).1, (winQ (at_ l 0) (at_ l 1)).2.1, (winQ (at_ l 0) (at_ l 1)).2.2.1, (winQ (at_ l 0) (at_ l 1)).2.2.2, (at_ l 2 % 32 : Nat), (at_ l 3 : Int) + 1, ((at_ l 4 % 64 : Nat) : Int) + 1, ((at_ l 5 % 64 : Nat) : Int) + 1, ((at_ l 6 % 16 : Nat) : Int) + 1, ((at_ l 7 % 8 : Nat) : Int) + 1, ((at_ l 8 % 16 : Nat) : Int) + 1⟩
theorem cfgQ_val (l : List B8) : Value.agg (cfgL l 0).toArray = (cfgQ l).val := by
  unfold cfgL
  rw [Nat.zero_add, Nat.zero_add, Nat.zero_add, Nat.zero_add, Nat.zero_add, Nat.zero_add, Nat.zero_add, Nat.zero_add]
  rfl
def fewB (xs : List MS) : Bool := xs.all (fun x => decide (x.r.n ≤ 200) && decide (x.op.key.length ≤ 60)) && decide (xs.length ≤ 30)
structure LSt (xs : List MS) where
  i : Nat
  ys : List MS
  A' : Option Addr
  c' : Nat
  hi : i ≤ xs.length
  hx : ys.map MS.sp = (xs.take i).map MS.sp
  fit : Fit ys
theorem map_len {xs ys : List MS} (h : xs.map MS.sp = ys.map MS.sp) : xs.length = ys.length := by
  have := congrArg List.length h
  rwa [List.length_map, List.length_map] at this
attribute [local irreducible] LX CX Yl Gives RetIs Fn
attribute [local irreducible] be de fr.frm
theorem config_law (c : Cf) : Fn Tryz.prog 12 [c.val] [] [] fun v Lo => v = c.val ∧ Lo = [] := by
  refine fn_enter Tryz.func12 rfl rfl (by kernel_rfl) rfl ?_
  intro w0
  repeat (first | refine wz ?_ | (refine wzb ?_; intro b_) | fail)
  exact bq_end (ret_cell (E := EV) 1 rfl rfl rfl rfl (fun _ => Nat.le_of_ble_eq_true rfl) rfl) [] (Gives.nil _) rfl ⟨rfl, rfl⟩
theorem ref_fn (x : MS) (hn : x.r.n ≤ 1000000) : Fn Tryz.prog 38 [x.val] [.ro x.r.A x.r.n 1 (bvs x.r.l)] [] fun v Lo => ∃ A' c', v = (⟨x.k, x.cl, ⟨A', x.r.n, c', x.r.l⟩, x.op, x.by_⟩ : MS).val ∧ Lo = [.own A' x.r.n c' 5 1 (bvs x.r.l)] := by
  have ho := own_fn x.r.A x.r.n x.r.c x.r.l (by omega)
  refine fn_enter Tryz.func38 rfl rfl (by kernel_rfl) rfl ?_
  intro w0
  repeat (first | refine wz ?_ | (refine wzb ?_; intro b_) | fail)
  rename_i b1
  refine cx_draw [6, 23] [.blk b1 x.cells 47] rfl (by kernel_rfl) (Gives.pick [1] (by decide) rfl) ?_
  repeat (first | (refine isx_call ?_; refine k_call (ho) [2] [] [0, 1, 2] rfl rfl rfl rfl rfl rfl rfl rfl ?_ (hgs := fun Lo _ => (Gives.right Lo _).trans (Gives.pick [1] (by decide) rfl)); rintro v_ Lo_ ⟨A2, c2, rfl, rfl⟩) | (refine isx_store ?_; refine gS 1 rfl rfl rfl rfl rfl rfl rfl rfl rfl rfl ?_ (hgs := fun _ => Gives.pick [2] (by decide) rfl)) | refine wz ?_ | (refine wzb ?_; intro b_) | fail)
  exact bq_end (ret_cell (E := EV) 1 rfl rfl rfl rfl (fun _ => Nat.le_of_ble_eq_true rfl) rfl) [_] (Gives.pick [0] (by decide) rfl) rfl ⟨A2, c2, rfl, rfl⟩
set_option maxHeartbeats 4000000 in
theorem refs_fn (A : Option Addr) (n c : Nat) (xs : List MS) (hl : xs.length = n) (hn : n ≤ 1000000) (hf : Fit xs) : Fn Tryz.prog 14 [.slice A n c] [Ck.sts A n xs] []
    fun v Lo => ∃ A' c' ys, v = .slice A' (List.length ys) c' ∧ ys.map MS.sp = xs.map MS.sp ∧ Fit ys ∧ Lo = .own A' ys.length c' 68 8 (scells ys) :: sbods ys := by
  subst hl
  refine fn_enter Tryz.func14 rfl rfl (by kernel_rfl) rfl ?_
  intro w0
  repeat (first | refine wz ?_ | (refine wzb ?_; intro b_) | fail)
  refine cx_loop (α := LSt xs) (fun x => [(0, none, .slice A xs.length c), (3, none, .slice x.A' x.ys.length x.c'), (4, none, .int .i64 x.i)]) (fun x => .own x.A' x.ys.length x.c' 68 8 (scells x.ys) :: Ck.sts A xs.length xs :: sbods x.ys) (fun x => xs.length - x.i)
    ⟨0, [], none, 0, Nat.zero_le _, rfl, fun x hx => by cases hx⟩ ⟨rfl, rfl, rfl, trivial⟩ (Gives.nilown _ _ _) ?_
  rintro ⟨i, ys, A', c', hi, hx0, fit⟩
  dsimp only at hi hx0 fit ⊢
  have hyl : ys.length = i := by
    have := congrArg List.length hx0
    rw [List.length_map, List.length_map, List.length_take] at this
    omega
  repeat (first | refine wz ?_ | (refine wzb ?_; intro b_) | fail)
  refine cx_cond rfl (fun h => ?_) (fun h => ?_)
  · have hlt : i < xs.length := by simp at h; omega
    clear h
    obtain ⟨x, hx⟩ : ∃ x, xs[i]? = some x := ⟨_, List.getElem?_eq_getElem hlt⟩
    have hfx := hf x (List.mem_of_getElem? hx)
    refine cx_weakL ((Gives.stsAt 1 rfl hx).trans (Gives.sts 2 rfl)) ?_
    have hcell := scells_at hx
    have hr := ref_fn x (by omega)
    repeat (first | ((first | (apply lx_u; exact rfl) | (apply lx_g; exact rfl; exact rfl)); first | (apply isy_indexAddr; exact q_ix 0 rfl rfl rfl rfl rfl) | (apply isy_load; exact q_ln 0 rfl rfl rfl rfl hcell rfl rfl) | fail) | (refine isx_call ?_; refine k_callT (hr) [_, _, _, _] ((sbods ys)) rfl [1] [] [2, 3] rfl rfl rfl rfl rfl rfl rfl rfl ?_; rintro v_ Lo_ ⟨A2, c2, rfl, rfl⟩) | refine wz ?_ | (refine wzb ?_; intro b_) | fail)
    refine lx_append (E := EV) 2 rfl rfl rfl rfl rfl rfl rfl rfl rfl rfl rfl rfl rfl (news := (⟨x.k, x.cl, ⟨A2, x.r.n, c2, x.r.l⟩, x.op, x.by_⟩ : MS).cells) (fun w hm => row_blk 0 rfl rfl hm) (scells_one _) (by unfold maxLen; omega) (by show (_ + _) * 88 ≤ _; omega) (fun _ _ _ => trivial) ?_
    intro A3 c3
    have hlen : (ys ++ [(⟨x.k, x.cl, ⟨A2, x.r.n, c2, x.r.l⟩, x.op, x.by_⟩ : MS)]).length = ys.length + 1 := by simp
    rw [← scells_push, ← hlen]
    repeat (first | refine wz ?_ | (refine wzb ?_; intro b_) | fail)
    refine ⟨⟨i + 1, ys ++ [⟨x.k, x.cl, ⟨A2, x.r.n, c2, x.r.l⟩, x.op, x.by_⟩], A3, c3, hlt, by rw [List.map_append, hx0, List.take_add_one, hx, List.map_append]; rfl, fit.push hfx⟩, ⟨rfl, rfl, slot_int (by dsimp only; omega), trivial⟩, ?_, by dsimp only; omega⟩
    dsimp only
    rw [sbods_push]
    exact Gives.pre [_, _, _, _] [2, 3, 1] (by decide) rfl rfl
  · have hi' : i = xs.length := by simp at h; omega
    rw [hi', List.take_length] at hx0
    repeat (first | refine wz ?_ | (refine wzb ?_; intro b_) | fail)
    exact bq_ret (ret_tmp rfl rfl) (.own A' ys.length c' 68 8 (scells ys) :: sbods ys) (Gives.pre [_, _] [0] (by decide) rfl rfl) (by rw [List.all_cons, sbods_mut]; rfl) ⟨A', c', ys, rfl, hx0, fit, rfl⟩
set_option maxHeartbeats 2000000 in
theorem same_law (A A' : Option Addr) (n c n' c' : Nat) (xs ys : List MS) (hl : xs.length = n) (hl' : ys.length = n') (h : xs.map MS.sp = ys.map MS.sp) (hn : n ≤ 9223372036854775807) :
    Fn Tryz.prog 13 [.slice A n c, .slice A' n' c'] [Ck.sts A n xs, Ck.sts A' n' ys] [] fun v Lo => v = .bool true ∧ Lo = [] := by
  have hl2 := map_len h
  subst hl hl'
  have hne : ((xs.length : Int) != (ys.length : Int)) = false := by rw [hl2]; exact bne_self_eq_false _
  refine fn_enter Tryz.func13 rfl rfl (by kernel_rfl) rfl ?_
  intro w0
  repeat (first | ((first | (apply lx_gt; exact rfl; exact rfl; exact rfl) | (apply lx_u; exact rfl) | (apply lx_g; exact rfl; exact rfl)); first | (apply isy_bin_neq; exact yl_false (yl_op (E := EV) rfl) (fun _ => hne)) | fail) | refine wzf ?_ | (refine wzb ?_; intro b_) | fail)
  refine cx_cond rfl (fun h => absurd h (by decide)) (fun _ => ?_)
  repeat (first | refine wz ?_ | (refine wzb ?_; intro b_) | fail)
  refine cx_loop (α := { i : Nat // i ≤ xs.length }) (fun x => [(0, none, .slice A xs.length c), (1, none, .slice A' ys.length c'), (5, none, .int .i64 x.1)]) (fun _ => [Ck.sts A xs.length xs, Ck.sts A' ys.length ys]) (fun x => xs.length - x.1) ⟨0, Nat.zero_le _⟩ ⟨rfl, rfl, rfl, trivial⟩ (Gives.refl _) ?_
  rintro ⟨i, hi⟩
  dsimp only
  repeat (first | refine wz ?_ | (refine wzb ?_; intro b_) | fail)
  refine cx_cond rfl (fun hc => ?_) (fun _ => ?_)
  · have hlt : i < xs.length := by simp at hc; omega
    clear hc
    obtain ⟨x, hx⟩ : ∃ x, xs[i]? = some x := ⟨_, List.getElem?_eq_getElem hlt⟩
    obtain ⟨y, hy⟩ : ∃ y, ys[i]? = some y := ⟨_, List.getElem?_eq_getElem (by omega)⟩
    have hxy : x.sp = y.sp := by
      have h1 : (xs.map MS.sp)[i]? = some x.sp := by rw [List.getElem?_map, hx]; rfl
      rw [h, List.getElem?_map, hy] at h1
      exact (Option.some.inj h1).symm
    refine cx_fact (fun w hm => (⟨sts_ok 0 rfl hx hm, sts_ok 1 rfl hy hm⟩ : (_ ∧ _) ∧ (_ ∧ _))) fun ⟨kx, ky⟩ => ?_
    have hs := rsame_fn x y kx.1 ky.1 (by omega)
    rw [hxy, SP.eqB_self] at hs
    refine cx_weakL ((Gives.stsAt 1 rfl hy).trans ((Gives.sts 2 rfl).trans ((Gives.stsAt 2 rfl hx).trans (Gives.sts 3 rfl)))) ?_
    have hcx := scells_at hx
    have hcy := scells_at hy
    repeat (first | refine wz ?_ | (refine wzb ?_; intro b_) | fail)
    refine cx_draw [8] _ rfl (by kernel_rfl) (Gives.refl _) ?_
    repeat (first | ((first | (apply lx_u; exact rfl) | (apply lx_g; exact rfl; exact rfl)); first | (apply isy_indexAddr; exact q_ix 0 rfl rfl rfl rfl rfl) | (apply isy_load; exact q_ln 0 rfl rfl rfl rfl hcx rfl rfl) | (apply isy_indexAddr; exact q_ix 2 rfl rfl rfl rfl rfl) | (apply isy_load; exact q_ln 2 rfl rfl rfl rfl hcy rfl rfl) | fail) | (refine isx_call ?_; refine k_gcall (hs) ((fun w hm => in_ro (row_ro 1 rfl hm) (in_ro (row_ro 3 rfl hm) (in_nil hm) rfl) rfl)) rfl rfl rfl rfl rfl rfl ?_) | refine wz ?_ | (refine wzb ?_; intro b_) | fail)
    refine cx_cond rfl (fun h => absurd h (by decide)) (fun _ => ?_)
    repeat (first | refine wz ?_ | (refine wzb ?_; intro b_) | fail)
    exact ⟨⟨i + 1, by omega⟩, ⟨rfl, rfl, slot_int (by dsimp only; omega), trivial⟩, Gives.pick [4, 5] (by decide) rfl, by dsimp only; omega⟩
  repeat (first | refine wz ?_ | (refine wzb ?_; intro b_) | fail)
  exact bq_ret (ret_tmp rfl rfl) [] (Gives.nil _) rfl ⟨rfl, rfl⟩
end Go.Proofs.YtmochicneilhhaaGreat.sc
namespace Go.Proofs.YtmochicneilhhaaGreat.sc
open Go.RowKit Go.Proofs.YtmochicneilhhaaGreat.kit Go.Proofs.YtmochicneilhhaaGreat.pk Go.Proofs.YtmochicneilhhaaGreat.rq Go.Proofs.YtmochicneilhhaaGreat.ev Go.Proofs.YtmochicneilhhaaGreat.win
abbrev z9 : List B8 := [0#8, 0#8, 0#8, 0#8, 0#8, 0#8, 0#8, 0#8, 0#8]
abbrev wl1 : List B8 := z9 ++ [13#8, 9#8, 1#8, 3#8, 255#8, 15#8]
abbrev wl2 : List B8 := z9 ++ [5#8, 0#8, 7#8, 9#8]
abbrev oneC : Cf := ⟨1, 1, 0, 0, 0, 1, 1, 1, 1, 1, 1⟩
abbrev statQ : RQ := ⟨8#8, 9#32, 0#8, 0#16, 0#64, 0#64, 0#8, [], [], 0, 0⟩
theorem wc0 : cfgQ [] = oneC := rfl
theorem wc1 : cfgQ wl1 = oneC := rfl
theorem wc2 : cfgQ wl2 = oneC := rfl
theorem ws0 : readS [] (clientsQ []) 9 = [] := readS_ge (by decide)
theorem ws1 : readS wl1 (clientsQ wl1) 9 = [⟨5#8, 0, [], zeroO, 0#64⟩, ⟨4#8, 0, [], ⟨1#8, [98#8], 3, -1⟩, 0#64⟩, ⟨7#8, 0, [], zeroO, 0#64⟩] := by
  rw [readS_lt (by decide), show stepQ wl1 (clientsQ wl1) 9 = (⟨5#8, 0, [], zeroO, 0#64⟩, 10) from rfl]
  dsimp only
  rw [readS_lt (by decide), show stepQ wl1 (clientsQ wl1) 10 = (⟨4#8, 0, [], ⟨1#8, [98#8], 3, -1⟩, 0#64⟩, 14) from rfl]
  dsimp only
  rw [readS_lt (by decide), show stepQ wl1 (clientsQ wl1) 14 = (⟨7#8, 0, [], zeroO, 0#64⟩, 15) from rfl]
  dsimp only
  rw [readS_ge (by decide)]
theorem wr2 : reqQ wl2 11 = (statQ, 13) := rfl
theorem ws2 : readS wl2 (clientsQ wl2) 9 = [⟨1#8, 0, frameQ statQ, zeroO, 0#64⟩] := by
  rw [readS_lt (by decide), show stepQ wl2 (clientsQ wl2) 9 = askQ wl2 1 10 from rfl]
  unfold askQ
  rw [wr2]
  dsimp only
  rw [readS_ge (by decide)]
  rfl
theorem map1 {α β : Type} {f : α → β} {l : List α} {a : β} (h : l.map f = [a]) : ∃ x, l = [x] ∧ f x = a := by
  match l, h with
  | [x], h => exact ⟨x, rfl, by simpa using h⟩
theorem map3 {α β : Type} {f : α → β} {l : List α} {a b c : β} (h : l.map f = [a, b, c]) : ∃ x y z, l = [x, y, z] ∧ f x = a ∧ f y = b ∧ f z = c := by
  match l, h with
  | [x, y, z], h => exact ⟨x, y, z, rfl, by simpa using h⟩
theorem read_val {T : TypeId} {l : List B8} {v : Value} {Lo : List Ck} {c : Cf} (hc : cfgQ l = c) (h : ReadP T l v Lo) : ∃ A' c' xs, v = .tuple #[c.val, .slice A' (List.length xs) c'] ∧ xs.map MS.sp = readS l (clientsQ l) 9 ∧ Fit xs ∧ xs.length ≤ 16384 ∧ Lo = .own A' xs.length c' T 8 (scells xs) :: sbods xs := by
  obtain ⟨A', c', xs, h1, h2⟩ := h
  exact ⟨A', c', xs, by rw [h1, cfgQ_val, hc], h2⟩
attribute [local irreducible] LX CX Yl Gives RetIs Fn
attribute [local irreducible] be de fr.frm
set_option maxRecDepth 100000 in
set_option maxHeartbeats 8000000 in
theorem works_fn : Fn Tryz.prog 8 [] [] [] fun v Lo => v = .bool true ∧ Lo = [] := by
  have hr0 := (read_fn none 0 0 [] [] rfl ⟨Nat.le_refl _, by decide⟩ rfl).mono fun _ _ => read_val wc0
  have ho := ofTumbling_fn 1
  have hof := eOf_fn [98#8] 3 (-1)
  have hfr := frame_fn statQ
  refine fn_enter Tryz.func8 rfl rfl (by kernel_rfl) rfl ?_
  intro w0
  repeat (first | refine wz ?_ | (refine wzb ?_; intro b_) | fail)
  repeat (first | (refine isx_call ?_; (refine isx_call ?_; refine lx_call0 (hr0) ((fun w hm => in_ro Row.nil (in_nil hm) rfl)) rfl rfl rfl rfl rfl rfl rfl rfl ?_; rintro v_ Lo_ ⟨A1, c1, ls, rfl, hls, fit1, le1, rfl⟩)) | refine wzo ?_ | (refine wzb ?_; intro b_) | fail)
  rw [ws0] at hls
  obtain rfl : ls = [] := List.map_eq_nil_iff.1 hls
  generalize b_ = bc
  refine cx_weakL (L' := [.blk bc oneC.cells 34]) (Gives.pick [0] (by decide) rfl) ?_
  repeat (first | (refine isx_make ?_; (refine isx_make ?_; refine lx_make (E := EV) 9 rfl rfl rfl rfl rfl rfl rfl rfl rfl rfl rfl rfl rfl rfl (by decide) (by decide) ?_; intro b9)) | refine wz ?_ | (refine wzb ?_; intro b_) | fail)
  refine lx_appendR (E := EV) rfl rfl rfl rfl rfl rfl rfl rfl rfl rfl rfl rfl (xs := bvs z9) (news := bvs [13#8, 9#8, 1#8, 3#8, 255#8, 15#8]) (fun w hm => row_blk 1 rfl rfl hm) (fun w hm => row_blk 0 rfl rfl hm) bvs_one (by unfold maxLen; omega) (by decide) (fun h0 => absurd h0 (by decide)) (fun _ A3 c3 => ?_)
  rw [← bvs_append]
  refine lx_fact (fun w hm => own_cap 0 hm rfl) fun hc3 => ?_
  have hr1 := (read_fn A3 (9 + 6) c3 wl1 wl1 rfl hc3 rfl).mono fun _ _ => read_val wc1
  repeat (first | (refine isx_call ?_; (refine isx_call ?_; refine lx_call0 (hr1) ((fun w hm => own_ro 0 hm rfl)) rfl rfl rfl rfl rfl rfl rfl rfl ?_; rintro v_ Lo_ ⟨A5, c5, ms, rfl, hms, fit5, le5, rfl⟩)) | refine wzo ?_ | (refine wzb ?_; intro b_) | fail)
  rw [ws1] at hms
  obtain ⟨x, y, z, rfl, hx, hy, hz⟩ := map3 hms
  rename_i b15
  generalize b_ = b4
  refine cx_weakL (L' := [.blk b9 (List.replicate 9 (.int .u8 0)) 5, .own A5 3 c5 47 8 (scells [x, y, z]), .blk b4 oneC.cells 34, .blk bc oneC.cells 34]) (Gives.pick [7, 1, 0, 8] (by decide) rfl) ?_
  repeat (first | refine wz ?_ | (refine wzb ?_; intro b_) | fail)
  refine lx_appendR (E := EV) rfl rfl rfl rfl rfl rfl rfl rfl rfl rfl rfl rfl (xs := bvs z9) (news := bvs [5#8, 0#8, 7#8, 9#8]) (fun w hm => row_blk 1 rfl rfl hm) (fun w hm => row_blk 0 rfl rfl hm) bvs_one (by unfold maxLen; omega) (by decide) (fun h0 => absurd h0 (by decide)) (fun _ A6 c6 => ?_)
  rw [← bvs_append]
  refine lx_fact (fun w hm => own_cap 0 hm rfl) fun hc6 => ?_
  have hr2 := (read_fn A6 (9 + 4) c6 wl2 wl2 rfl hc6 rfl).mono fun _ _ => read_val wc2
  repeat (first | (refine isx_call ?_; (refine isx_call ?_; refine lx_call0 (hr2) ((fun w hm => own_ro 0 hm rfl)) rfl rfl rfl rfl rfl rfl rfl rfl ?_; rintro v_ Lo_ ⟨A7, c7, ns, rfl, hns, fit7, le7, rfl⟩)) | refine wzo ?_ | (refine wzb ?_; intro b_) | fail)
  rw [ws2] at hns
  obtain ⟨u, rfl, hu⟩ := map1 hns
  generalize b_ = b6
  refine cx_weakL (L' := [.blk bc oneC.cells 34, .blk b4 oneC.cells 34, .own A5 3 c5 47 8 (scells [x, y, z]), .own A7 1 c7 47 8 (scells [u]), u.body]) (Gives.pick [8, 7, 6, 1, 2] (by decide) rfl) ?_
  have hcc : oneC.eqB oneC = true := rfl
  repeat (first | refine wz ?_ | (refine wzb ?_; intro b_) | fail)
  refine cx_draw [1] _ rfl (by kernel_rfl) (Gives.refl _) ?_
  repeat (first | ((first | (apply lx_gt; exact rfl; exact rfl; exact rfl) | (apply lx_u; exact rfl) | (apply lx_g; exact rfl; exact rfl)); first | (apply isy_bin_neq; exact yl_false (yl_nes cfe_g rfl rfl (fun w => cfe oneC oneC w) (by first | exact fun _ => rfl | exact fun h => h | exact fun h => (Bool.and_eq_true_iff.1 h).1) (by first | exact fun _ => rfl | exact fun h => h | exact fun h => (Bool.and_eq_true_iff.1 h).1)) (fun _ => rfl)) | (apply isy_bin_neq; exact yl_false (yl_op (E := EV) rfl) (fun _ => rfl)) | fail) | (refine isx_call ?_; refine lx_gcallt (ho) (fun _ hm => in_nil hm) rfl rfl rfl rfl rfl rfl rfl ?_) | refine wzf ?_ | (refine wzb ?_; intro b_) | fail)
  refine cx_cond rfl (fun h => absurd h (by decide)) (fun _ => ?_)
  repeat (first | refine wz ?_ | (refine wzb ?_; intro b_) | fail)
  have hxk : x.k = 5#8 := congrArg SP.k hx
  have hyo : y.op = ⟨1#8, [98#8], 3, -1⟩ := congrArg SP.op hy
  have hzk : z.k = 7#8 := congrArg SP.k hz
  have hx0 : (scells [x, y, z])[mulI 0 8 + 0]? = some (.int .u8 5) := by show some (Value.int .u8 (x.k.toNat : Int)) = _; rw [hxk]; rfl
  have hz0 : (scells [x, y, z])[mulI 2 8 + 0]? = some (.int .u8 7) := by show some (Value.int .u8 (z.k.toNat : Int)) = _; rw [hzk]; rfl
  have hy3 : cellsAt (scells [x, y, z]) (mulI 1 8 + 3) 4 = (⟨1#8, [98#8], 3, -1⟩ : EOp).cells := by show y.op.cells = _; rw [hyo]
  have hu0 := scells_at (xs := [u]) (i := 0) rfl
  have hus : ∀ Af cf, u.sp.eqB (⟨1#8, 0, ⟨Af, (frameQ statQ).length, cf, frameQ statQ⟩, zeroO, 0#64⟩ : MS).sp = true := fun Af cf => by rw [hu]; exact SP.eqB_self _
  have hs := fun Af cf => (show Fn Tryz.prog 27 [u.val, (⟨1#8, 0, ⟨Af, (frameQ statQ).length, cf, frameQ statQ⟩, zeroO, 0#64⟩ : MS).val] [.ro u.r.A u.r.n 1 (bvs u.r.l), .ro Af (frameQ statQ).length 1 (bvs (frameQ statQ))] [] fun v Lo => v = .bool true ∧ Lo = [] from by
    have h := same_fn u ⟨1#8, 0, ⟨Af, (frameQ statQ).length, cf, frameQ statQ⟩, zeroO, 0#64⟩
    rw [hus Af cf] at h
    exact h)
  refine cx_draw [10, 25, 27] [.own A5 3 c5 47 8 (scells [x, y, z]), .own A7 1 c7 47 8 (scells [u])] rfl (by kernel_rfl) (Gives.pick [2, 3] (by decide) rfl) ?_
  repeat (first | ((first | (apply lx_gt; exact rfl; exact rfl; exact rfl) | (apply lx_u; exact rfl) | (apply lx_g; exact rfl; exact rfl)); first | (apply isy_indexAddr; exact q_ixo 0 rfl rfl rfl rfl rfl (hb := (fun _ => by simp))) | (apply isy_fieldAddr; exact q_fio 0 rfl rfl rfl rfl rfl rfl) | (apply isy_load; exact q_lio 0 rfl rfl rfl rfl hx0) | (apply isy_bin_eql; exact yl_true (yl_op (E := EV) rfl) (fun _ => rfl)) | (apply isy_load; exact q_lno 0 rfl rfl rfl rfl hy3 rfl rfl) | (apply isy_bin_eql; exact yl_true (yl_eqs op_eq_g rfl rfl (fun w => op_eq ⟨1#8, [98#8], 3, -1⟩ ⟨1#8, [98#8], 3, -1⟩ w) (by first | exact fun _ => rfl | exact fun h => h | exact fun h => (Bool.and_eq_true_iff.1 h).1) (by first | exact fun _ => rfl | exact fun h => h | exact fun h => (Bool.and_eq_true_iff.1 h).1)) (fun _ => rfl)) | (apply isy_load; exact q_lio 0 rfl rfl rfl rfl hz0) | (apply isy_indexAddr; exact q_ixo 1 rfl rfl rfl rfl rfl (hb := (fun _ => by simp))) | (apply isy_load; exact q_lno 1 rfl rfl rfl rfl hu0 rfl rfl) | fail) | (refine isx_call ?_; refine lx_gcallt (hof) (fun _ hm => in_nil hm) rfl rfl rfl rfl rfl rfl rfl ?_) | (refine isx_call ?_; (refine isx_call ?_; refine lx_call0 (hfr) (fun _ hm => in_nil hm) rfl rfl rfl rfl rfl rfl rfl rfl ?_; rintro v_ Lo_ ⟨A8, c8, rfl, rfl⟩)) | refine wzf ?_ | (refine wzb ?_; intro b_) | fail)
  repeat (first | (refine isx_call ?_; refine lx_gcallt ((hs A8 c8)) ((fun w hm => in_ro (row_own 5 rfl hm) (in_ro (row_own 0 rfl hm) (in_nil hm) rfl) rfl)) rfl rfl rfl rfl rfl rfl rfl ?_) | refine wzf ?_ | (refine wzb ?_; intro b_) | fail)
  exact bq_ret (ret_tmp rfl rfl) [] (Gives.nil _) rfl ⟨rfl, rfl⟩
end Go.Proofs.YtmochicneilhhaaGreat.sc
