/- scripts: steps compared, named, and copied. scripts: what the statements share. -/
import Derived.Test.YtmochicneilhhaaGreatPGo
import Derived.Test.YtmochicneilhhaaGreatPTj
namespace Go.Proofs.YtmochicneilhhaaGreat.sc
open Go.RowKit Go.Proofs.YtmochicneilhhaaGreat.kit Go.Proofs.YtmochicneilhhaaGreat.pk Go.Proofs.YtmochicneilhhaaGreat.rq Go.Proofs.YtmochicneilhhaaGreat.ev
def SP.eqB (a b : SP) : Bool := ((((((a.k.toNat : Int) == (b.k.toNat : Int)) && (a.cl == b.cl)) && (a.bs == b.bs)) && a.op.eqB b.op) && ((a.by_.toNat : Int) == (b.by_.toNat : Int)))
theorem eop_iff (a b : EOp) : a.eqB b = true ↔ a = b := by
  obtain ⟨k, key, t, v⟩ := a
  obtain ⟨k', key', t', v'⟩ := b
  simp only [EOp.eqB, Bool.and_eq_true, beq_iff_eq, Int.natCast_inj, BitVec.toNat_inj, EOp.mk.injEq]
theorem SP.eqB_iff (a b : SP) : a.eqB b = true ↔ a = b := by
  obtain ⟨k, cl, bs, op, by_⟩ := a
  obtain ⟨k', cl', bs', op', by'⟩ := b
  simp only [SP.eqB, Bool.and_eq_true, eop_iff, beq_iff_eq, Int.natCast_inj, BitVec.toNat_inj, SP.mk.injEq, and_assoc]
theorem SP.eqB_self (a : SP) : a.eqB a = true := (SP.eqB_iff a a).2 rfl
/-- steps that are read -/
def stP (A : Option Addr) (n : Nat) (xs : List MS) (w : World) : Prop := Row w w.heap.size 8 A n (scells xs) ∧ ∀ x ∈ xs, x.r.ok w
def stOn (A : Option Addr) (n : Nat) (xs : List MS) (g : Nat) : Prop := (n ≠ 0 ∧ A.map (·.block) = some g) ∨ ∃ x ∈ xs, x.r.n ≠ 0 ∧ x.r.A.map (·.block) = some g
theorem st_stable (A : Option Addr) (n : Nat) (xs : List MS) : Stable (stOn A n xs) (stP A n xs) := fun w h => by
  refine ⟨fun b hb => ?_, fun w' hsz hk => ⟨Row.stay h.1 hsz fun b hb => hk b (.inl hb), fun r hr => ?_⟩⟩
  · rcases hb with hb | ⟨r, hr, hb⟩
    · exact Row.lt_of h.1 hb.1 hb.2
    · exact Row.lt_of (h.2 r hr).1 hb.1 hb.2
  · obtain ⟨h1, h2⟩ := h.2 r hr
    exact ⟨Row.stay h1 hsz fun b hb => hk b (.inr ⟨r, hr, hb⟩), h2⟩
abbrev Ck.sts (A : Option Addr) (n : Nat) (xs : List MS) : Ck := .deep (stOn A n xs) (stP A n xs) (st_stable A n xs)
section
variable {L : List Ck}
theorem Gives.sts (k : Nat) {A : Option Addr} {n : Nat} {xs : List MS} (hk : L[k]? = some (Ck.sts A n xs)) : Gives L (.ro A n 8 (scells xs) :: L) := Gives.add k hk rfl rfl fun _ h => ⟨h.1, fun _ hb => .inl hb⟩
theorem Gives.stsAt (k : Nat) {A : Option Addr} {n i : Nat} {xs : List MS} {x : MS} (hk : L[k]? = some (Ck.sts A n xs)) (hi : xs[i]? = some x) : Gives L (.ro x.r.A x.r.n 1 (bvs x.r.l) :: L) :=
  Gives.add k hk rfl rfl fun _ h => ⟨(h.2 x (List.mem_of_getElem? hi)).1, fun _ hb => .inr ⟨x, List.mem_of_getElem? hi, hb⟩⟩
theorem sts_ok {M : Me} {w : World} (k : Nat) {A : Option Addr} {n i : Nat} {xs : List MS} {x : MS} (hk : L[k]? = some (Ck.sts A n xs)) (hi : xs[i]? = some x) (hm : Mem M L w) : x.r.l.length = x.r.n ∧ x.r.n ≤ x.r.c ∧ x.r.c ≤ 9223372036854775807 := by
  have h : stP A n xs w := hm.get hk
  obtain ⟨h1, h2, h3⟩ := h.2 x (List.mem_of_getElem? hi)
  have := h1.1
  rw [bvs_len] at this
  omega
theorem sts_in {w : World} {Lin : List Ck} {A : Option Addr} {m : Nat} {xs : List MS} (h : stP A m xs w) (hin : Mem ⟨w, []⟩ Lin w) (hro : Lin.all (fun c => !c.mut_) = true) : Mem ⟨w, []⟩ (Ck.sts A m xs :: Lin) w := by
  refine ⟨hin.keep, fun c hc => ?_, fun c hc hm => ?_, List.Pairwise.cons (fun c hc hm => ?_) hin.sep⟩
  · rcases List.mem_cons.1 hc with rfl | hc
    · exact h
    · exact hin.all c hc
  · rcases List.mem_cons.1 hc with rfl | hc
    · cases hm
    · exact hin.out c hc hm
  · have := List.all_eq_true.1 hro c hc
    rcases hm with hm | hm
    · cases hm
    · rw [hm] at this; cases this
theorem sbody_ok {M : Me} {w : World} {x : MS} (hc : x.body ∈ L) (hm : Mem M L w) : x.r.ok w := by
  obtain ⟨k, hk⟩ := List.getElem?_of_mem hc
  exact ⟨row_own k hk hm, own_cap k hm hk⟩
/-- of a row that is one's own, and its bytes -/
theorem sts_own {M : Me} {w : World} {A : Option Addr} {n c : Nat} {T : TypeId} {xs : List MS} (k : Nat) (hm : Mem M L w) (hk : L[k]? = some (.own A n c T 8 (scells xs))) (hb : ∀ x ∈ sbods xs, x ∈ L) : stP A n xs w :=
  ⟨row_own k hk hm, fun x hx => sbody_ok (hb _ (List.mem_map.2 ⟨x, List.mem_reverse.2 hx, rfl⟩)) hm⟩
end
theorem scells_at {xs : List MS} {i : Nat} {x : MS} (h : xs[i]? = some x) : cellsAt (scells xs) (mulI i 8) 8 = x.cells := flat_at (f := MS.cells) (m := 8) (fun _ => rfl) h
abbrev wordsL : List (List B8) := [[], [102#8, 101#8, 101#8, 100#8], [100#8, 101#8, 99#8, 111#8, 100#8, 101#8], [115#8, 101#8, 114#8, 118#8, 101#8], [105#8, 110#8, 103#8, 101#8, 115#8, 116#8], [112#8, 117#8, 98#8, 108#8, 105#8, 115#8, 104#8], [116#8, 105#8, 99#8, 107#8], [118#8, 97#8, 99#8, 117#8, 117#8, 109#8]]
abbrev wordsV : List Value := [.string (sb []), .string (sb [102#8, 101#8, 101#8, 100#8]), .string (sb [100#8, 101#8, 99#8, 111#8, 100#8, 101#8]), .string (sb [115#8, 101#8, 114#8, 118#8, 101#8]), .string (sb [105#8, 110#8, 103#8, 101#8, 115#8, 116#8]), .string (sb [112#8, 117#8, 98#8, 108#8, 105#8, 115#8, 104#8]), .string (sb [116#8, 105#8, 99#8, 107#8]), .string (sb [118#8, 97#8, 99#8, 117#8, 117#8, 109#8])]
def wordQ (k : B8) : List B8 := (wordsL[k.toNat]?).getD []
theorem words_at {k : B8} (h : k.toNat < 8) : wordsV[mulI ((k.toNat : Nat) : Int).toNat 1]? = some (.string (sb (wordQ k))) := by
  unfold wordQ
  show wordsV[k.toNat]? = _
  generalize k.toNat = q at *
  have : q = 0 ∨ q = 1 ∨ q = 2 ∨ q = 3 ∨ q = 4 ∨ q = 5 ∨ q = 6 ∨ q = 7 := by omega
  rcases this with rfl | rfl | rfl | rfl | rfl | rfl | rfl | rfl <;> rfl
attribute [local irreducible] LX CX Yl Gives RetIs Fn
attribute [local irreducible] be de fr.frm
theorem equal_fn (A A' : Option Addr) (n c n' c' : Nat) (l l' : List B8) : Fn Tryz.prog 56 [.slice A n c, .slice A' n' c'] [.ro A n 1 (bvs l), .ro A' n' 1 (bvs l')] [] fun v Lo => v = .bool (l == l') ∧ Lo = [] := by
  refine fn_enter Tryz.func56 rfl rfl (by kernel_rfl) rfl ?_
  intro w0
  repeat (first | ((first | (apply lx_u; exact rfl) | (apply lx_g; exact rfl; exact rfl)); first | (apply isy_convert; exact q_text rfl rfl rfl rfl (fun _ _ hm => row_ro 0 rfl hm)) | (apply isy_convert; exact q_text rfl rfl rfl rfl (fun _ _ hm => row_ro 1 rfl hm)) | (apply isy_bin_eql; exact q_seq l l' rfl rfl) | fail) | refine wz ?_ | (refine wzb ?_; intro b_) | fail)
  exact bq_ret (ret_tmp rfl rfl) [] (Gives.nil _) rfl ⟨rfl, rfl⟩
set_option maxRecDepth 100000 in
set_option maxHeartbeats 4000000 in
theorem same_fn (x y : MS) : Fn Tryz.prog 27 [x.val, y.val] [.ro x.r.A x.r.n 1 (bvs x.r.l), .ro y.r.A y.r.n 1 (bvs y.r.l)] [] fun v Lo => v = .bool (x.sp.eqB y.sp) ∧ Lo = [] := by
  have h := equal_fn x.r.A y.r.A x.r.n x.r.c y.r.n y.r.c x.r.l y.r.l
  refine fn_enter Tryz.func27 rfl rfl (by kernel_rfl) rfl ?_
  intro w0
  repeat (first | ((first | (apply lx_u; exact rfl) | (apply lx_g; exact rfl; exact rfl)); first | (apply isy_bin_eql; exact yl_eqs op_eq_g rfl rfl (fun w => op_eq x.op y.op w) (by first | exact fun _ => rfl | exact fun h => h | exact fun h => (Bool.and_eq_true_iff.1 h).1) (by first | exact fun _ => rfl | exact fun h => h | exact fun h => (Bool.and_eq_true_iff.1 h).1)) | fail) | (refine isx_call ?_; refine k_gcall (h) ((fun w hm => in_ro (row_ro 2 rfl hm) (in_ro (row_ro 3 rfl hm) (in_nil hm) rfl) rfl)) rfl rfl rfl rfl rfl rfl ?_) | refine wz ?_ | (refine wzb ?_; intro b_) | fail)
  exact bq_ret (ret_tmp rfl rfl) [] (Gives.nil _) rfl ⟨rfl, rfl⟩
theorem wordQ_no {k : B8} (h : ¬ k.toNat < 8) : wordQ k = [] := by unfold wordQ; rw [List.getElem?_eq_none (by simp; omega)]; rfl
theorem word_fn (k : B8) : Fn Tryz.prog 25 [bv k] [] [] fun v Lo => v = .string (sb (wordQ k)) ∧ Lo = [] := by
  by_cases h8 : k.toNat < 8
  · have hw := words_at h8
    refine fn_enter Tryz.func25 rfl rfl (by kernel_rfl) rfl ?_; intro w0
    repeat (first | ((first | (apply lx_u; exact rfl) | (apply lx_g; exact rfl; exact rfl)); first | (apply isy_convert; exact q_cn rfl rfl rfl) | fail) | refine wz ?_ | (refine wzb ?_; intro b_) | fail)
    refine cx_cond rfl (fun h => absurd h (by simp; omega)) (fun _ => ?_)
    refine cx_weakL (Gives.blkown (m := 8) (sz := 1) 0 rfl rfl (by decide)) ?_
    repeat (first | ((first | (apply lx_u; exact rfl) | (apply lx_g; exact rfl; exact rfl)); first | (apply isy_indexAddr; exact q_ixo 0 rfl rfl rfl rfl rfl (hb := (fun _ => by omega))) | (apply isy_load; exact q_lio 0 rfl rfl rfl rfl hw) | fail) | refine wz ?_ | (refine wzb ?_; intro b_) | fail)
    exact bq_ret (ret_tmp rfl rfl) [] (Gives.nil _) rfl ⟨rfl, rfl⟩
  · rw [wordQ_no h8]
    refine fn_enter Tryz.func25 rfl rfl (by kernel_rfl) rfl ?_; intro w0
    repeat (first | ((first | (apply lx_u; exact rfl) | (apply lx_g; exact rfl; exact rfl)); first | (apply isy_convert; exact q_cn rfl rfl rfl) | fail) | refine wz ?_ | (refine wzb ?_; intro b_) | fail)
    refine cx_cond rfl (fun _ => ?_) (fun h => absurd h (by simp; omega))
    repeat (first | refine wz ?_ | (refine wzb ?_; intro b_) | fail)
    exact bq_ret (ret_tmp rfl rfl) [] (Gives.nil _) rfl ⟨rfl, rfl⟩
theorem rword_fn (k : B8) : Fn Tryz.prog 26 [bv k] [] [] fun v Lo => v = .string (sb (wordQ k)) ∧ Lo = [] := by
  by_cases h8 : k.toNat < 8
  · have hw := words_at h8
    refine fn_enter Tryz.func26 rfl rfl (by kernel_rfl) rfl ?_; intro w0
    repeat (first | refine wz ?_ | (refine wzb ?_; intro b_) | fail)
    refine cx_cond rfl (fun h => absurd h (by simp; omega)) (fun _ => ?_)
    repeat (first | refine wz ?_ | (refine wzb ?_; intro b_) | fail)
    refine lx_weak (Gives.blkown (m := 8) (sz := 1) 0 rfl rfl (by decide)) ?_
    repeat (first | ((first | (apply lx_u; exact rfl) | (apply lx_g; exact rfl; exact rfl)); first | (apply isy_indexAddr; exact q_ixo 0 rfl rfl rfl rfl rfl (hb := (fun _ => by omega))) | (apply isy_load; exact q_lio 0 rfl rfl rfl rfl hw) | fail) | refine wz ?_ | (refine wzb ?_; intro b_) | fail)
    exact bq_ret (ret_tmp rfl rfl) [] (Gives.nil _) rfl ⟨rfl, rfl⟩
  · rw [wordQ_no h8]
    refine fn_enter Tryz.func26 rfl rfl (by kernel_rfl) rfl ?_; intro w0
    repeat (first | refine wz ?_ | (refine wzb ?_; intro b_) | fail)
    refine cx_cond rfl (fun _ => ?_) (fun h => absurd h (by simp; omega))
    repeat (first | refine wz ?_ | (refine wzb ?_; intro b_) | fail)
    exact bq_ret (ret_tmp rfl rfl) [] (Gives.nil _) rfl ⟨rfl, rfl⟩
set_option maxRecDepth 100000 in
set_option maxHeartbeats 4000000 in
theorem rsame_fn (x y : MS) (hx : x.r.l.length = x.r.n) (hy : y.r.l.length = y.r.n) (hn : x.r.n ≤ 9223372036854775807) : Fn Tryz.prog 28 [x.val, y.val] [.ro x.r.A x.r.n 1 (bvs x.r.l), .ro y.r.A y.r.n 1 (bvs y.r.l)] [] fun v Lo => v = .bool (x.sp.eqB y.sp) ∧ Lo = [] := by
  by_cases hl : x.r.l = y.r.l
  · have hnn : x.r.n = y.r.n := by rw [← hx, hl, hy]
    have hq : x.sp.eqB y.sp = (((((x.k.toNat : Int) == (y.k.toNat : Int)) && (x.cl == y.cl)) && x.op.eqB y.op) && ((x.by_.toNat : Int) == (y.by_.toNat : Int))) := by
      have hb : (x.r.l == y.r.l) = true := by rw [hl]; exact beq_self_eq_true _
      show ((((_ && _) && (x.r.l == y.r.l)) && _) && _) = _
      rw [hb, Bool.and_true]
      rfl
    have hne : ((x.r.n : Int) != (y.r.n : Int)) = false := by rw [hnn]; exact bne_self_eq_false _
    rw [hq]
    refine fn_enter Tryz.func28 rfl rfl (by kernel_rfl) rfl ?_; intro w0
    repeat (first | ((first | (apply lx_gt; exact rfl; exact rfl; exact rfl) | (apply lx_u; exact rfl) | (apply lx_g; exact rfl; exact rfl)); first | (apply isy_bin_neq; exact yl_false (yl_op (E := EV) rfl) (fun _ => hne)) | fail) | refine wzf ?_ | (refine wzb ?_; intro b_) | fail)
    refine cx_cond rfl (fun h => absurd h (by decide)) (fun _ => ?_)
    repeat (first | refine wz ?_ | (refine wzb ?_; intro b_) | fail)
    rename_i b2 hff
    generalize b_ = b3
    refine cx_loop (α := { i : Nat // i ≤ x.r.n }) (fun i => [(2, none, .pointer (some ⟨b2, 0, none⟩)), (3, none, .pointer (some ⟨b3, 0, none⟩)), (5, none, .int .i64 i.1)]) (fun _ => [.blk b3 y.cells 68, .blk b2 x.cells 68, .ro x.r.A x.r.n 1 (bvs x.r.l), .ro y.r.A y.r.n 1 (bvs y.r.l)]) (fun i => x.r.n - i.1) ⟨0, Nat.zero_le _⟩ ⟨rfl, rfl, rfl, trivial⟩ (Gives.refl _) ?_
    rintro ⟨i, hi⟩
    dsimp only
    repeat (first | refine wz ?_ | (refine wzb ?_; intro b_) | fail)
    refine cx_cond rfl (fun h => ?_) (fun h => ?_)
    · have hlt : i < x.r.n := by simp at h; omega
      clear h
      obtain ⟨u, hu⟩ : ∃ u, x.r.l[i]? = some u := ⟨_, List.getElem?_eq_getElem (by omega)⟩
      have hu1 : (bvs x.r.l)[mulI i 1]? = some (bv u) := bvs_get hu
      have hu2 : (bvs y.r.l)[mulI i 1]? = some (bv u) := bvs_get (by rw [← hl]; exact hu)
      repeat (first | refine wz ?_ | (refine wzb ?_; intro b_) | fail)
      refine cx_draw [] _ rfl (by kernel_rfl) (Gives.refl _) ?_
      repeat (first | ((first | (apply lx_gt; exact rfl; exact rfl; exact rfl) | (apply lx_u; exact rfl) | (apply lx_g; exact rfl; exact rfl)); first | (apply isy_indexAddr; exact q_ix 2 rfl rfl rfl rfl rfl) | (apply isy_load; exact q_li 2 rfl rfl rfl rfl hu1) | (apply isy_indexAddr; exact q_ix 3 rfl rfl rfl rfl rfl) | (apply isy_load; exact q_li 3 rfl rfl rfl rfl hu2) | (apply isy_bin_neq; exact yl_false (yl_op (E := EV) rfl) (fun _ => bne_self_eq_false _)) | fail) | refine wzf ?_ | (refine wzb ?_; intro b_) | fail)
      refine cx_cond rfl (fun h => absurd h (by decide)) (fun _ => ?_)
      repeat (first | refine wz ?_ | (refine wzb ?_; intro b_) | fail)
      exact ⟨⟨i + 1, by omega⟩, ⟨rfl, rfl, slot_int (by dsimp only; omega), trivial⟩, Gives.refl _, by dsimp only; omega⟩
    · repeat (first | ((first | (apply lx_u; exact rfl) | (apply lx_g; exact rfl; exact rfl)); first | (apply isy_bin_eql; exact yl_eqs rop_eq_g rfl rfl (fun w => rop_eq x.op y.op w) (by first | exact fun _ => rfl | exact fun h => h | exact fun h => (Bool.and_eq_true_iff.1 h).1) (by first | exact fun _ => rfl | exact fun h => h | exact fun h => (Bool.and_eq_true_iff.1 h).1)) | fail) | refine wz ?_ | (refine wzb ?_; intro b_) | fail)
      exact bq_ret (ret_tmp rfl rfl) [] (Gives.nil _) rfl ⟨rfl, rfl⟩
  · have hq : x.sp.eqB y.sp = false := by
      have hb : (x.r.l == y.r.l) = false := by rw [beq_eq_false_iff_ne]; exact hl
      show ((((_ && _) && (x.r.l == y.r.l)) && _) && _) = _
      rw [hb, Bool.and_false, Bool.false_and, Bool.false_and]
    rw [hq]
    by_cases hnn : x.r.n = y.r.n
    · have hne : ((x.r.n : Int) != (y.r.n : Int)) = false := by rw [hnn]; exact bne_self_eq_false _
      refine fn_enter Tryz.func28 rfl rfl (by kernel_rfl) rfl ?_; intro w0
      repeat (first | ((first | (apply lx_gt; exact rfl; exact rfl; exact rfl) | (apply lx_u; exact rfl) | (apply lx_g; exact rfl; exact rfl)); first | (apply isy_bin_neq; exact yl_false (yl_op (E := EV) rfl) (fun _ => hne)) | fail) | refine wzf ?_ | (refine wzb ?_; intro b_) | fail)
      refine cx_cond rfl (fun h => absurd h (by decide)) (fun _ => ?_)
      repeat (first | refine wz ?_ | (refine wzb ?_; intro b_) | fail)
      rename_i b2 hff
      generalize b_ = b3
      refine cx_loop (α := { i : Nat // i ≤ x.r.n ∧ x.r.l.take i = y.r.l.take i }) (fun i => [(2, none, .pointer (some ⟨b2, 0, none⟩)), (3, none, .pointer (some ⟨b3, 0, none⟩)), (5, none, .int .i64 i.1)]) (fun _ => [.blk b3 y.cells 68, .blk b2 x.cells 68, .ro x.r.A x.r.n 1 (bvs x.r.l), .ro y.r.A y.r.n 1 (bvs y.r.l)]) (fun i => x.r.n - i.1) ⟨0, Nat.zero_le _, rfl⟩ ⟨rfl, rfl, rfl, trivial⟩ (Gives.refl _) ?_
      rintro ⟨i, hi, ht⟩
      dsimp only
      repeat (first | refine wz ?_ | (refine wzb ?_; intro b_) | fail)
      refine cx_cond rfl (fun h => ?_) (fun h => ?_)
      · have hlt : i < x.r.n := by simp at h; omega
        clear h
        obtain ⟨u, hu⟩ : ∃ u, x.r.l[i]? = some u := ⟨_, List.getElem?_eq_getElem (by omega)⟩
        obtain ⟨z, hz⟩ : ∃ z, y.r.l[i]? = some z := ⟨_, List.getElem?_eq_getElem (by omega)⟩
        have hu1 : (bvs x.r.l)[mulI i 1]? = some (bv u) := bvs_get hu
        have hu2 : (bvs y.r.l)[mulI i 1]? = some (bv z) := bvs_get hz
        repeat (first | refine wz ?_ | (refine wzb ?_; intro b_) | fail)
        refine cx_draw [] _ rfl (by kernel_rfl) (Gives.refl _) ?_
        repeat (first | ((first | (apply lx_u; exact rfl) | (apply lx_g; exact rfl; exact rfl)); first | (apply isy_indexAddr; exact q_ix 2 rfl rfl rfl rfl rfl) | (apply isy_load; exact q_li 2 rfl rfl rfl rfl hu1) | (apply isy_indexAddr; exact q_ix 3 rfl rfl rfl rfl rfl) | (apply isy_load; exact q_li 3 rfl rfl rfl rfl hu2) | (apply isy_bin_neq; exact q_bne u z rfl rfl rfl rfl) | fail) | refine wz ?_ | (refine wzb ?_; intro b_) | fail)
        refine cx_cond rfl (fun h => ?_) (fun h => ?_)
        · repeat (first | refine wz ?_ | (refine wzb ?_; intro b_) | fail)
          exact bq_ret (ret_tmp rfl rfl) [] (Gives.nil _) rfl ⟨rfl, rfl⟩
        · have huz : u = z := by simpa using h
          repeat (first | refine wz ?_ | (refine wzb ?_; intro b_) | fail)
          exact ⟨⟨i + 1, by omega, by rw [List.take_add_one, List.take_add_one, hu, hz, ht, huz]⟩, ⟨rfl, rfl, slot_int (by dsimp only; omega), trivial⟩, Gives.refl _, by dsimp only; omega⟩
      · exfalso
        have hii : i = x.r.n := by simp at h; omega
        rw [List.take_of_length_le (by omega), List.take_of_length_le (by omega)] at ht
        exact hl ht
    · have hne : ((x.r.n : Int) != (y.r.n : Int)) = true := by simp; omega
      refine fn_enter Tryz.func28 rfl rfl (by kernel_rfl) rfl ?_; intro w0
      repeat (first | ((first | (apply lx_gt; exact rfl; exact rfl; exact rfl) | (apply lx_u; exact rfl) | (apply lx_g; exact rfl; exact rfl)); first | (apply isy_bin_neq; exact yl_true (yl_op (E := EV) rfl) (fun _ => hne)) | fail) | refine wzf ?_ | (refine wzb ?_; intro b_) | fail)
      refine cx_cond rfl (fun _ => ?_) (fun h => absurd h (by decide))
      repeat (first | refine wz ?_ | (refine wzb ?_; intro b_) | fail)
      exact bq_ret (ret_tmp rfl rfl) [] (Gives.nil _) rfl ⟨rfl, rfl⟩
end Go.Proofs.YtmochicneilhhaaGreat.sc
namespace Go.Proofs.YtmochicneilhhaaGreat.sc
open Go.RowKit Go.Proofs.YtmochicneilhhaaGreat.kit Go.Proofs.YtmochicneilhhaaGreat.pk Go.Proofs.YtmochicneilhhaaGreat.rq Go.Proofs.YtmochicneilhhaaGreat.ev Go.Proofs.YtmochicneilhhaaGreat.win
/-- a configuration -/
structure Cf where
  k : Int
  s : Int
  l : Int
  g : Int
  la : Int
  ca : Int
  pg : Int
  bu : Int
  qu : Int
  cl : Int
  le : Int
abbrev Cf.cells (c : Cf) : List Value := [.int .u8 c.k, .int .i64 c.s, .int .i64 c.l, .int .i64 c.g, .int .i64 c.la, .int .i64 c.ca, .int .i64 c.pg, .int .i64 c.bu, .int .i64 c.qu, .int .i64 c.cl, .int .i64 c.le]
abbrev Cf.val (c : Cf) : Value := .agg #[.int .u8 c.k, .int .i64 c.s, .int .i64 c.l, .int .i64 c.g, .int .i64 c.la, .int .i64 c.ca, .int .i64 c.pg, .int .i64 c.bu, .int .i64 c.qu, .int .i64 c.cl, .int .i64 c.le]
def Cf.eqB (c d : Cf) : Bool := c.k == d.k && (c.s == d.s && (c.l == d.l && (c.g == d.g && (c.la == d.la && (c.ca == d.ca && (c.pg == d.pg && (c.bu == d.bu && (c.qu == d.qu && (c.cl == d.cl && c.le == d.le)))))))))
theorem Cf.eqB_iff (c d : Cf) : c.eqB d = true ↔ c = d := by
  obtain ⟨a1, a2, a3, a4, a5, a6, a7, a8, a9, a10, a11⟩ := c
  obtain ⟨b1, b2, b3, b4, b5, b6, b7, b8, b9, b10, b11⟩ := d
  simp only [Cf.eqB, Bool.and_eq_true, beq_iff_eq, Cf.mk.injEq]
theorem Cf.eqB_self (c : Cf) : c.eqB c = true := (Cf.eqB_iff c c).2 rfl
theorem cfe (c d : Cf) (w : World) : (binOp .eql 34 c.val d.val).run Tryz.prog w = .ok (.bool (c.eqB d)) w := by
  go_simp
  unfold Cf.eqB
  exact chain rfl (chain rfl (chain rfl (chain rfl (chain rfl (chain rfl (chain rfl (chain rfl (chain rfl (chain rfl (chain1 rfl))))))))))
theorem cfe_g : Tryz.prog.eqGuardType Tryz.prog.depth 34 = false := by kernel_rfl
theorem rcfe (c d : Cf) (w : World) : (binOp .eql 28 c.val d.val).run Tryz.prog w = .ok (.bool (c.eqB d)) w := by
  go_simp
  unfold Cf.eqB
  exact chain rfl (chain rfl (chain rfl (chain rfl (chain rfl (chain rfl (chain rfl (chain rfl (chain rfl (chain rfl (chain1 rfl))))))))))
theorem rcfe_g : Tryz.prog.eqGuardType Tryz.prog.depth 28 = false := by kernel_rfl
/-- the configuration that bytes tell -/
def cfgQ (l : List B8) : Cf := ⟨(winQ (at_ l 0) (at_ l 1)).1, (winQ (at_ l 0) (at_ l 1)).2.1, (winQ (at_ l 0) (at_ l 1)).2.2.1, (winQ (at_ l 0) (at_ l 1)).2.2.2, (at_ l 2 % 32 : Nat), (at_ l 3 : Int) + 1, ((at_ l 4 % 64 : Nat) : Int) + 1, ((at_ l 5 % 64 : Nat) : Int) + 1, ((at_ l 6 % 16 : Nat) : Int) + 1, ((at_ l 7 % 8 : Nat) : Int) + 1, ((at_ l 8 % 16 : Nat) : Int) + 1⟩
theorem cfgQ_val (l : List B8) : Value.agg (cfgL l 0).toArray = (cfgQ l).val := by
  unfold cfgL
  rw [Nat.zero_add, Nat.zero_add, Nat.zero_add, Nat.zero_add, Nat.zero_add, Nat.zero_add, Nat.zero_add, Nat.zero_add]
  rfl
def fewB (xs : List MS) : Bool := xs.all (fun x => decide (x.r.n ≤ 200) && decide (x.op.key.length ≤ 60)) && decide (xs.length ≤ 30)
structure LSt (xs : List MS) where
  i : Nat
  ys : List MS
  A' : Option Addr
  c' : Nat
  hi : i ≤ xs.length
  hx : ys.map MS.sp = (xs.take i).map MS.sp
  fit : Fit ys
theorem map_len {xs ys : List MS} (h : xs.map MS.sp = ys.map MS.sp) : xs.length = ys.length := by
  have := congrArg List.length h
  rwa [List.length_map, List.length_map] at this
attribute [local irreducible] LX CX Yl Gives RetIs Fn
attribute [local irreducible] be de fr.frm
theorem config_law (c : Cf) : Fn Tryz.prog 12 [c.val] [] [] fun v Lo => v = c.val ∧ Lo = [] := by
  refine fn_enter Tryz.func12 rfl rfl (by kernel_rfl) rfl ?_
  intro w0
  repeat (first | refine wz ?_ | (refine wzb ?_; intro b_) | fail)
  exact bq_end (ret_cell (E := EV) 1 rfl rfl rfl rfl (fun _ => Nat.le_of_ble_eq_true rfl) rfl) [] (Gives.nil _) rfl ⟨rfl, rfl⟩
theorem ref_fn (x : MS) (hn : x.r.n ≤ 1000000) : Fn Tryz.prog 38 [x.val] [.ro x.r.A x.r.n 1 (bvs x.r.l)] [] fun v Lo => ∃ A' c', v = (⟨x.k, x.cl, ⟨A', x.r.n, c', x.r.l⟩, x.op, x.by_⟩ : MS).val ∧ Lo = [.own A' x.r.n c' 5 1 (bvs x.r.l)] := by
  have ho := own_fn x.r.A x.r.n x.r.c x.r.l (by omega)
  refine fn_enter Tryz.func38 rfl rfl (by kernel_rfl) rfl ?_
  intro w0
  repeat (first | refine wz ?_ | (refine wzb ?_; intro b_) | fail)
  rename_i b1
  refine cx_draw [6, 23] [.blk b1 x.cells 47] rfl (by kernel_rfl) (Gives.pick [1] (by decide) rfl) ?_
  repeat (first | (refine isx_call ?_; refine k_call (ho) [2] [] [0, 1, 2] rfl rfl rfl rfl rfl rfl rfl rfl ?_ (hgs := fun Lo _ => (Gives.right Lo _).trans (Gives.pick [1] (by decide) rfl)); rintro v_ Lo_ ⟨A2, c2, rfl, rfl⟩) | (refine isx_store ?_; refine gS 1 rfl rfl rfl rfl rfl rfl rfl rfl rfl rfl ?_ (hgs := fun _ => Gives.pick [2] (by decide) rfl)) | refine wz ?_ | (refine wzb ?_; intro b_) | fail)
  exact bq_end (ret_cell (E := EV) 1 rfl rfl rfl rfl (fun _ => Nat.le_of_ble_eq_true rfl) rfl) [_] (Gives.pick [0] (by decide) rfl) rfl ⟨A2, c2, rfl, rfl⟩
set_option maxHeartbeats 4000000 in
theorem refs_fn (A : Option Addr) (n c : Nat) (xs : List MS) (hl : xs.length = n) (hn : n ≤ 1000000) (hf : Fit xs) : Fn Tryz.prog 14 [.slice A n c] [Ck.sts A n xs] []
    fun v Lo => ∃ A' c' ys, v = .slice A' (List.length ys) c' ∧ ys.map MS.sp = xs.map MS.sp ∧ Fit ys ∧ Lo = .own A' ys.length c' 68 8 (scells ys) :: sbods ys := by
  subst hl
  refine fn_enter Tryz.func14 rfl rfl (by kernel_rfl) rfl ?_
  intro w0
  repeat (first | refine wz ?_ | (refine wzb ?_; intro b_) | fail)
  refine cx_loop (α := LSt xs) (fun x => [(0, none, .slice A xs.length c), (3, none, .slice x.A' x.ys.length x.c'), (4, none, .int .i64 x.i)]) (fun x => .own x.A' x.ys.length x.c' 68 8 (scells x.ys) :: Ck.sts A xs.length xs :: sbods x.ys) (fun x => xs.length - x.i)
    ⟨0, [], none, 0, Nat.zero_le _, rfl, fun x hx => by cases hx⟩ ⟨rfl, rfl, rfl, trivial⟩ (Gives.nilown _ _ _) ?_
  rintro ⟨i, ys, A', c', hi, hx0, fit⟩
  dsimp only at hi hx0 fit ⊢
  have hyl : ys.length = i := by
    have := congrArg List.length hx0
    rw [List.length_map, List.length_map, List.length_take] at this
    omega
  repeat (first | refine wz ?_ | (refine wzb ?_; intro b_) | fail)
  refine cx_cond rfl (fun h => ?_) (fun h => ?_)
  · have hlt : i < xs.length := by simp at h; omega
    clear h
    obtain ⟨x, hx⟩ : ∃ x, xs[i]? = some x := ⟨_, List.getElem?_eq_getElem hlt⟩
    have hfx := hf x (List.mem_of_getElem? hx)
    refine cx_weakL ((Gives.stsAt 1 rfl hx).trans (Gives.sts 2 rfl)) ?_
    have hcell := scells_at hx
    have hr := ref_fn x (by omega)
    repeat (first | ((first | (apply lx_u; exact rfl) | (apply lx_g; exact rfl; exact rfl)); first | (apply isy_indexAddr; exact q_ix 0 rfl rfl rfl rfl rfl) | (apply isy_load; exact q_ln 0 rfl rfl rfl rfl hcell rfl rfl) | fail) | (refine isx_call ?_; refine k_callT (hr) [_, _, _, _] ((sbods ys)) rfl [1] [] [2, 3] rfl rfl rfl rfl rfl rfl rfl rfl ?_; rintro v_ Lo_ ⟨A2, c2, rfl, rfl⟩) | refine wz ?_ | (refine wzb ?_; intro b_) | fail)
    refine lx_append (E := EV) 2 rfl rfl rfl rfl rfl rfl rfl rfl rfl rfl rfl rfl rfl (news := (⟨x.k, x.cl, ⟨A2, x.r.n, c2, x.r.l⟩, x.op, x.by_⟩ : MS).cells) (fun w hm => row_blk 0 rfl rfl hm) (scells_one _) (by unfold maxLen; omega) (by show (_ + _) * 88 ≤ _; omega) (fun _ _ _ => trivial) ?_
    intro A3 c3
    have hlen : (ys ++ [(⟨x.k, x.cl, ⟨A2, x.r.n, c2, x.r.l⟩, x.op, x.by_⟩ : MS)]).length = ys.length + 1 := by simp
    rw [← scells_push, ← hlen]
    repeat (first | refine wz ?_ | (refine wzb ?_; intro b_) | fail)
    refine ⟨⟨i + 1, ys ++ [⟨x.k, x.cl, ⟨A2, x.r.n, c2, x.r.l⟩, x.op, x.by_⟩], A3, c3, hlt, by rw [List.map_append, hx0, List.take_add_one, hx, List.map_append]; rfl, fit.push hfx⟩, ⟨rfl, rfl, slot_int (by dsimp only; omega), trivial⟩, ?_, by dsimp only; omega⟩
    dsimp only
    rw [sbods_push]
    exact Gives.pre [_, _, _, _] [2, 3, 1] (by decide) rfl rfl
  · have hi' : i = xs.length := by simp at h; omega
    rw [hi', List.take_length] at hx0
    repeat (first | refine wz ?_ | (refine wzb ?_; intro b_) | fail)
    exact bq_ret (ret_tmp rfl rfl) (.own A' ys.length c' 68 8 (scells ys) :: sbods ys) (Gives.pre [_, _] [0] (by decide) rfl rfl) (by rw [List.all_cons, sbods_mut]; rfl) ⟨A', c', ys, rfl, hx0, fit, rfl⟩
set_option maxHeartbeats 2000000 in
theorem same_law (A A' : Option Addr) (n c n' c' : Nat) (xs ys : List MS) (hl : xs.length = n) (hl' : ys.length = n') (h : xs.map MS.sp = ys.map MS.sp) (hn : n ≤ 9223372036854775807) :
    Fn Tryz.prog 13 [.slice A n c, .slice A' n' c'] [Ck.sts A n xs, Ck.sts A' n' ys] [] fun v Lo => v = .bool true ∧ Lo = [] := by
  have hl2 := map_len h
  subst hl hl'
  have hne : ((xs.length : Int) != (ys.length : Int)) = false := by rw [hl2]; exact bne_self_eq_false _
  refine fn_enter Tryz.func13 rfl rfl (by kernel_rfl) rfl ?_
  intro w0
  repeat (first | ((first | (apply lx_gt; exact rfl; exact rfl; exact rfl) | (apply lx_u; exact rfl) | (apply lx_g; exact rfl; exact rfl)); first | (apply isy_bin_neq; exact yl_false (yl_op (E := EV) rfl) (fun _ => hne)) | fail) | refine wzf ?_ | (refine wzb ?_; intro b_) | fail)
  refine cx_cond rfl (fun h => absurd h (by decide)) (fun _ => ?_)
  repeat (first | refine wz ?_ | (refine wzb ?_; intro b_) | fail)
  refine cx_loop (α := { i : Nat // i ≤ xs.length }) (fun x => [(0, none, .slice A xs.length c), (1, none, .slice A' ys.length c'), (5, none, .int .i64 x.1)]) (fun _ => [Ck.sts A xs.length xs, Ck.sts A' ys.length ys]) (fun x => xs.length - x.1) ⟨0, Nat.zero_le _⟩ ⟨rfl, rfl, rfl, trivial⟩ (Gives.refl _) ?_
  rintro ⟨i, hi⟩
  dsimp only
  repeat (first | refine wz ?_ | (refine wzb ?_; intro b_) | fail)
  refine cx_cond rfl (fun hc => ?_) (fun _ => ?_)
  · have hlt : i < xs.length := by simp at hc; omega
    clear hc
    obtain ⟨x, hx⟩ : ∃ x, xs[i]? = some x := ⟨_, List.getElem?_eq_getElem hlt⟩
    obtain ⟨y, hy⟩ : ∃ y, ys[i]? = some y := ⟨_, List.getElem?_eq_getElem (by omega)⟩
    have hxy : x.sp = y.sp := by
      have h1 : (xs.map MS.sp)[i]? = some x.sp := by rw [List.getElem?_map, hx]; rfl
      rw [h, List.getElem?_map, hy] at h1
      exact (Option.some.inj h1).symm
    refine cx_fact (fun w hm => (⟨sts_ok 0 rfl hx hm, sts_ok 1 rfl hy hm⟩ : (_ ∧ _) ∧ (_ ∧ _))) fun ⟨kx, ky⟩ => ?_
    have hs := rsame_fn x y kx.1 ky.1 (by omega)
    rw [hxy, SP.eqB_self] at hs
    refine cx_weakL ((Gives.stsAt 1 rfl hy).trans ((Gives.sts 2 rfl).trans ((Gives.stsAt 2 rfl hx).trans (Gives.sts 3 rfl)))) ?_
    have hcx := scells_at hx
    have hcy := scells_at hy
    repeat (first | refine wz ?_ | (refine wzb ?_; intro b_) | fail)
    refine cx_draw [8] _ rfl (by kernel_rfl) (Gives.refl _) ?_
    repeat (first | ((first | (apply lx_u; exact rfl) | (apply lx_g; exact rfl; exact rfl)); first | (apply isy_indexAddr; exact q_ix 0 rfl rfl rfl rfl rfl) | (apply isy_load; exact q_ln 0 rfl rfl rfl rfl hcx rfl rfl) | (apply isy_indexAddr; exact q_ix 2 rfl rfl rfl rfl rfl) | (apply isy_load; exact q_ln 2 rfl rfl rfl rfl hcy rfl rfl) | fail) | (refine isx_call ?_; refine k_gcall (hs) ((fun w hm => in_ro (row_ro 1 rfl hm) (in_ro (row_ro 3 rfl hm) (in_nil hm) rfl) rfl)) rfl rfl rfl rfl rfl rfl ?_) | refine wz ?_ | (refine wzb ?_; intro b_) | fail)
    refine cx_cond rfl (fun h => absurd h (by decide)) (fun _ => ?_)
    repeat (first | refine wz ?_ | (refine wzb ?_; intro b_) | fail)
    exact ⟨⟨i + 1, by omega⟩, ⟨rfl, rfl, slot_int (by dsimp only; omega), trivial⟩, Gives.pick [4, 5] (by decide) rfl, by dsimp only; omega⟩
  repeat (first | refine wz ?_ | (refine wzb ?_; intro b_) | fail)
  exact bq_ret (ret_tmp rfl rfl) [] (Gives.nil _) rfl ⟨rfl, rfl⟩
end Go.Proofs.YtmochicneilhhaaGreat.sc
