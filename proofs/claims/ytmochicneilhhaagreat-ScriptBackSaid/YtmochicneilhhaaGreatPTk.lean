/- scripts: steps compared, named, and copied. -/
import Derived.Test.YtmochicneilhhaaGreatPGo
import Derived.Test.YtmochicneilhhaaGreatPTj
namespace Go.Proofs.YtmochicneilhhaaGreat.sc
open Go.RowKit Go.Proofs.YtmochicneilhhaaGreat.kit Go.Proofs.YtmochicneilhhaaGreat.pk Go.Proofs.YtmochicneilhhaaGreat.rq Go.Proofs.YtmochicneilhhaaGreat.ev
def SP.eqB (a b : SP) : Bool := ((((((a.k.toNat : Int) == (b.k.toNat : Int)) && (a.cl == b.cl)) && (a.bs == b.bs)) && a.op.eqB b.op) && ((a.by_.toNat : Int) == (b.by_.toNat : Int)))
theorem eop_iff (a b : EOp) : a.eqB b = true ↔ a = b := by
  obtain ⟨k, key, t, v⟩ := a
  obtain ⟨k', key', t', v'⟩ := b
  simp only [EOp.eqB, Bool.and_eq_true, beq_iff_eq, Int.natCast_inj, BitVec.toNat_inj, EOp.mk.injEq]
theorem SP.eqB_iff (a b : SP) : a.eqB b = true ↔ a = b := by
  obtain ⟨k, cl, bs, op, by_⟩ := a
  obtain ⟨k', cl', bs', op', by'⟩ := b
  simp only [SP.eqB, Bool.and_eq_true, eop_iff, beq_iff_eq, Int.natCast_inj, BitVec.toNat_inj, SP.mk.injEq, and_assoc]
theorem SP.eqB_self (a : SP) : a.eqB a = true := (SP.eqB_iff a a).2 rfl
/-- steps that are read -/
def stP (A : Option Addr) (n : Nat) (xs : List MS) (w : World) : Prop := Row w w.heap.size 8 A n (scells xs) ∧ ∀ x ∈ xs, x.r.ok w
def stOn (A : Option Addr) (n : Nat) (xs : List MS) (g : Nat) : Prop := (n ≠ 0 ∧ A.map (·.block) = some g) ∨ ∃ x ∈ xs, x.r.n ≠ 0 ∧ x.r.A.map (·.block) = some g
theorem st_stable (A : Option Addr) (n : Nat) (xs : List MS) : Stable (stOn A n xs) (stP A n xs) := fun w h => by
  refine ⟨fun b hb => ?_, fun w' hsz hk => ⟨Row.stay h.1 hsz fun b hb => hk b (.inl hb), fun r hr => ?_⟩⟩
  · rcases hb with hb | ⟨r, hr, hb⟩
    · exact Row.lt_of h.1 hb.1 hb.2
    · exact Row.lt_of (h.2 r hr).1 hb.1 hb.2
  · obtain ⟨h1, h2⟩ := h.2 r hr
    exact ⟨Row.stay h1 hsz fun b hb => hk b (.inr ⟨r, hr, hb⟩), h2⟩
abbrev Ck.sts (A : Option Addr) (n : Nat) (xs : List MS) : Ck := .deep (stOn A n xs) (stP A n xs) (st_stable A n xs)
section
variable {L : List Ck}
theorem Gives.sts (k : Nat) {A : Option Addr} {n : Nat} {xs : List MS} (hk : L[k]? = some (Ck.sts A n xs)) : Gives L (.ro A n 8 (scells xs) :: L) := Gives.add k hk rfl rfl fun _ h => ⟨h.1, fun _ hb => .inl hb⟩
theorem Gives.stsAt (k : Nat) {A : Option Addr} {n i : Nat} {xs : List MS} {x : MS} (hk : L[k]? = some (Ck.sts A n xs)) (hi : xs[i]? = some x) : Gives L (.ro x.r.A x.r.n 1 (bvs x.r.l) :: L) :=
  Gives.add k hk rfl rfl fun _ h => ⟨(h.2 x (List.mem_of_getElem? hi)).1, fun _ hb => .inr ⟨x, List.mem_of_getElem? hi, hb⟩⟩
theorem sts_ok {M : Me} {w : World} (k : Nat) {A : Option Addr} {n i : Nat} {xs : List MS} {x : MS} (hk : L[k]? = some (Ck.sts A n xs)) (hi : xs[i]? = some x) (hm : Mem M L w) : x.r.l.length = x.r.n ∧ x.r.n ≤ x.r.c ∧ x.r.c ≤ 9223372036854775807 := by
  have h : stP A n xs w := hm.get hk
  obtain ⟨h1, h2, h3⟩ := h.2 x (List.mem_of_getElem? hi)
  have := h1.1
  rw [bvs_len] at this
  omega
theorem sts_in {w : World} {Lin : List Ck} {A : Option Addr} {m : Nat} {xs : List MS} (h : stP A m xs w) (hin : Mem ⟨w, []⟩ Lin w) (hro : Lin.all (fun c => !c.mut_) = true) : Mem ⟨w, []⟩ (Ck.sts A m xs :: Lin) w := by
  refine ⟨hin.keep, fun c hc => ?_, fun c hc hm => ?_, List.Pairwise.cons (fun c hc hm => ?_) hin.sep⟩
  · rcases List.mem_cons.1 hc with rfl | hc
    · exact h
    · exact hin.all c hc
  · rcases List.mem_cons.1 hc with rfl | hc
    · cases hm
    · exact hin.out c hc hm
  · have := List.all_eq_true.1 hro c hc
    rcases hm with hm | hm
    · cases hm
    · rw [hm] at this; cases this
theorem sbody_ok {M : Me} {w : World} {x : MS} (hc : x.body ∈ L) (hm : Mem M L w) : x.r.ok w := by
  obtain ⟨k, hk⟩ := List.getElem?_of_mem hc
  exact ⟨row_own k hk hm, own_cap k hm hk⟩
/-- of a row that is one's own, and its bytes -/
theorem sts_own {M : Me} {w : World} {A : Option Addr} {n c : Nat} {T : TypeId} {xs : List MS} (k : Nat) (hm : Mem M L w) (hk : L[k]? = some (.own A n c T 8 (scells xs))) (hb : ∀ x ∈ sbods xs, x ∈ L) : stP A n xs w :=
  ⟨row_own k hk hm, fun x hx => sbody_ok (hb _ (List.mem_map.2 ⟨x, List.mem_reverse.2 hx, rfl⟩)) hm⟩
end
theorem scells_at {xs : List MS} {i : Nat} {x : MS} (h : xs[i]? = some x) : cellsAt (scells xs) (mulI i 8) 8 = x.cells := flat_at (f := MS.cells) (m := 8) (fun _ => rfl) h
attribute [local irreducible] LX CX Yl Gives RetIs Fn
attribute [local irreducible] be de fr.frm
theorem equal_fn (A A' : Option Addr) (n c n' c' : Nat) (l l' : List B8) : Fn Tryz.prog 56 [.slice A n c, .slice A' n' c'] [.ro A n 1 (bvs l), .ro A' n' 1 (bvs l')] [] fun v Lo => v = .bool (l == l') ∧ Lo = [] := by
  refine fn_enter Tryz.func56 rfl rfl (by kernel_rfl) rfl ?_
  intro w0
  repeat (first | ((first | (apply lx_u; exact rfl) | (apply lx_g; exact rfl; exact rfl)); first | (apply isy_convert; exact q_text rfl rfl rfl rfl (fun _ _ hm => row_ro 0 rfl hm)) | (apply isy_convert; exact q_text rfl rfl rfl rfl (fun _ _ hm => row_ro 1 rfl hm)) | (apply isy_bin_eql; exact q_seq l l' rfl rfl) | fail) | refine wz ?_ | (refine wzb ?_; intro b_) | fail)
  exact bq_ret (ret_tmp rfl rfl) [] (Gives.nil _) rfl ⟨rfl, rfl⟩
set_option maxRecDepth 100000 in
set_option maxHeartbeats 4000000 in
theorem same_fn (x y : MS) : Fn Tryz.prog 27 [x.val, y.val] [.ro x.r.A x.r.n 1 (bvs x.r.l), .ro y.r.A y.r.n 1 (bvs y.r.l)] [] fun v Lo => v = .bool (x.sp.eqB y.sp) ∧ Lo = [] := by
  have h := equal_fn x.r.A y.r.A x.r.n x.r.c y.r.n y.r.c x.r.l y.r.l
  refine fn_enter Tryz.func27 rfl rfl (by kernel_rfl) rfl ?_
  intro w0
  repeat (first | ((first | (apply lx_u; exact rfl) | (apply lx_g; exact rfl; exact rfl)); first | (apply isy_bin_eql; exact yl_eqs op_eq_g rfl rfl (fun w => op_eq x.op y.op w) (by first | exact fun _ => rfl | exact fun h => h | exact fun h => (Bool.and_eq_true_iff.1 h).1) (by first | exact fun _ => rfl | exact fun h => h | exact fun h => (Bool.and_eq_true_iff.1 h).1)) | fail) | (refine isx_call ?_; refine k_gcall (h) ((fun w hm => in_ro (row_ro 2 rfl hm) (in_ro (row_ro 3 rfl hm) (in_nil hm) rfl) rfl)) rfl rfl rfl rfl rfl rfl ?_) | refine wz ?_ | (refine wzb ?_; intro b_) | fail)
  exact bq_ret (ret_tmp rfl rfl) [] (Gives.nil _) rfl ⟨rfl, rfl⟩
set_option maxRecDepth 100000 in
set_option maxHeartbeats 4000000 in
theorem rsame_fn (x y : MS) (hx : x.r.l.length = x.r.n) (hy : y.r.l.length = y.r.n) (hn : x.r.n ≤ 9223372036854775807) : Fn Tryz.prog 28 [x.val, y.val] [.ro x.r.A x.r.n 1 (bvs x.r.l), .ro y.r.A y.r.n 1 (bvs y.r.l)] [] fun v Lo => v = .bool (x.sp.eqB y.sp) ∧ Lo = [] := by
  by_cases hl : x.r.l = y.r.l
  · have hnn : x.r.n = y.r.n := by rw [← hx, hl, hy]
    have hq : x.sp.eqB y.sp = (((((x.k.toNat : Int) == (y.k.toNat : Int)) && (x.cl == y.cl)) && x.op.eqB y.op) && ((x.by_.toNat : Int) == (y.by_.toNat : Int))) := by
      have hb : (x.r.l == y.r.l) = true := by rw [hl]; exact beq_self_eq_true _
      show ((((_ && _) && (x.r.l == y.r.l)) && _) && _) = _
      rw [hb, Bool.and_true]
      rfl
    have hne : ((x.r.n : Int) != (y.r.n : Int)) = false := by rw [hnn]; exact bne_self_eq_false _
    rw [hq]
    refine fn_enter Tryz.func28 rfl rfl (by kernel_rfl) rfl ?_; intro w0
    repeat (first | ((first | (apply lx_gt; exact rfl; exact rfl; exact rfl) | (apply lx_u; exact rfl) | (apply lx_g; exact rfl; exact rfl)); first | (apply isy_bin_neq; exact yl_false (yl_op (E := EV) rfl) (fun _ => hne)) | fail) | refine wzf ?_ | (refine wzb ?_; intro b_) | fail)
    refine cx_cond rfl (fun h => absurd h (by decide)) (fun _ => ?_)
    repeat (first | refine wz ?_ | (refine wzb ?_; intro b_) | fail)
    rename_i b2 hff
    generalize b_ = b3
    refine cx_loop (α := { i : Nat // i ≤ x.r.n }) (fun i => [(2, none, .pointer (some ⟨b2, 0, none⟩)), (3, none, .pointer (some ⟨b3, 0, none⟩)), (5, none, .int .i64 i.1)]) (fun _ => [.blk b3 y.cells 68, .blk b2 x.cells 68, .ro x.r.A x.r.n 1 (bvs x.r.l), .ro y.r.A y.r.n 1 (bvs y.r.l)]) (fun i => x.r.n - i.1) ⟨0, Nat.zero_le _⟩ ⟨rfl, rfl, rfl, trivial⟩ (Gives.refl _) ?_
    rintro ⟨i, hi⟩
    dsimp only
    repeat (first | refine wz ?_ | (refine wzb ?_; intro b_) | fail)
    refine cx_cond rfl (fun h => ?_) (fun h => ?_)
    · have hlt : i < x.r.n := by simp at h; omega
      clear h
      obtain ⟨u, hu⟩ : ∃ u, x.r.l[i]? = some u := ⟨_, List.getElem?_eq_getElem (by omega)⟩
      have hu1 : (bvs x.r.l)[mulI i 1]? = some (bv u) := bvs_get hu
      have hu2 : (bvs y.r.l)[mulI i 1]? = some (bv u) := bvs_get (by rw [← hl]; exact hu)
      repeat (first | refine wz ?_ | (refine wzb ?_; intro b_) | fail)
      refine cx_draw [] _ rfl (by kernel_rfl) (Gives.refl _) ?_
      repeat (first | ((first | (apply lx_gt; exact rfl; exact rfl; exact rfl) | (apply lx_u; exact rfl) | (apply lx_g; exact rfl; exact rfl)); first | (apply isy_indexAddr; exact q_ix 2 rfl rfl rfl rfl rfl) | (apply isy_load; exact q_li 2 rfl rfl rfl rfl hu1) | (apply isy_indexAddr; exact q_ix 3 rfl rfl rfl rfl rfl) | (apply isy_load; exact q_li 3 rfl rfl rfl rfl hu2) | (apply isy_bin_neq; exact yl_false (yl_op (E := EV) rfl) (fun _ => bne_self_eq_false _)) | fail) | refine wzf ?_ | (refine wzb ?_; intro b_) | fail)
      refine cx_cond rfl (fun h => absurd h (by decide)) (fun _ => ?_)
      repeat (first | refine wz ?_ | (refine wzb ?_; intro b_) | fail)
      exact ⟨⟨i + 1, by omega⟩, ⟨rfl, rfl, slot_int (by dsimp only; omega), trivial⟩, Gives.refl _, by dsimp only; omega⟩
    · repeat (first | ((first | (apply lx_u; exact rfl) | (apply lx_g; exact rfl; exact rfl)); first | (apply isy_bin_eql; exact yl_eqs rop_eq_g rfl rfl (fun w => rop_eq x.op y.op w) (by first | exact fun _ => rfl | exact fun h => h | exact fun h => (Bool.and_eq_true_iff.1 h).1) (by first | exact fun _ => rfl | exact fun h => h | exact fun h => (Bool.and_eq_true_iff.1 h).1)) | fail) | refine wz ?_ | (refine wzb ?_; intro b_) | fail)
      exact bq_ret (ret_tmp rfl rfl) [] (Gives.nil _) rfl ⟨rfl, rfl⟩
  · have hq : x.sp.eqB y.sp = false := by
      have hb : (x.r.l == y.r.l) = false := by rw [beq_eq_false_iff_ne]; exact hl
      show ((((_ && _) && (x.r.l == y.r.l)) && _) && _) = _
      rw [hb, Bool.and_false, Bool.false_and, Bool.false_and]
    rw [hq]
    by_cases hnn : x.r.n = y.r.n
    · have hne : ((x.r.n : Int) != (y.r.n : Int)) = false := by rw [hnn]; exact bne_self_eq_false _
      refine fn_enter Tryz.func28 rfl rfl (by kernel_rfl) rfl ?_; intro w0
      repeat (first | ((first | (apply lx_gt; exact rfl; exact rfl; exact rfl) | (apply lx_u; exact rfl) | (apply lx_g; exact rfl; exact rfl)); first | (apply isy_bin_neq; exact yl_false (yl_op (E := EV) rfl) (fun _ => hne)) | fail) | refine wzf ?_ | (refine wzb ?_; intro b_) | fail)
      refine cx_cond rfl (fun h => absurd h (by decide)) (fun _ => ?_)
      repeat (first | refine wz ?_ | (refine wzb ?_; intro b_) | fail)
      rename_i b2 hff
      generalize b_ = b3
      refine cx_loop (α := { i : Nat // i ≤ x.r.n ∧ x.r.l.take i = y.r.l.take i }) (fun i => [(2, none, .pointer (some ⟨b2, 0, none⟩)), (3, none, .pointer (some ⟨b3, 0, none⟩)), (5, none, .int .i64 i.1)]) (fun _ => [.blk b3 y.cells 68, .blk b2 x.cells 68, .ro x.r.A x.r.n 1 (bvs x.r.l), .ro y.r.A y.r.n 1 (bvs y.r.l)]) (fun i => x.r.n - i.1) ⟨0, Nat.zero_le _, rfl⟩ ⟨rfl, rfl, rfl, trivial⟩ (Gives.refl _) ?_
      rintro ⟨i, hi, ht⟩
      dsimp only
      repeat (first | refine wz ?_ | (refine wzb ?_; intro b_) | fail)
      refine cx_cond rfl (fun h => ?_) (fun h => ?_)
      · have hlt : i < x.r.n := by simp at h; omega
        clear h
        obtain ⟨u, hu⟩ : ∃ u, x.r.l[i]? = some u := ⟨_, List.getElem?_eq_getElem (by omega)⟩
        obtain ⟨z, hz⟩ : ∃ z, y.r.l[i]? = some z := ⟨_, List.getElem?_eq_getElem (by omega)⟩
        have hu1 : (bvs x.r.l)[mulI i 1]? = some (bv u) := bvs_get hu
        have hu2 : (bvs y.r.l)[mulI i 1]? = some (bv z) := bvs_get hz
        repeat (first | refine wz ?_ | (refine wzb ?_; intro b_) | fail)
        refine cx_draw [] _ rfl (by kernel_rfl) (Gives.refl _) ?_
        repeat (first | ((first | (apply lx_u; exact rfl) | (apply lx_g; exact rfl; exact rfl)); first | (apply isy_indexAddr; exact q_ix 2 rfl rfl rfl rfl rfl) | (apply isy_load; exact q_li 2 rfl rfl rfl rfl hu1) | (apply isy_indexAddr; exact q_ix 3 rfl rfl rfl rfl rfl) | (apply isy_load; exact q_li 3 rfl rfl rfl rfl hu2) | (apply isy_bin_neq; exact q_bne u z rfl rfl rfl rfl) | fail) | refine wz ?_ | (refine wzb ?_; intro b_) | fail)
        refine cx_cond rfl (fun h => ?_) (fun h => ?_)
        · repeat (first | refine wz ?_ | (refine wzb ?_; intro b_) | fail)
          exact bq_ret (ret_tmp rfl rfl) [] (Gives.nil _) rfl ⟨rfl, rfl⟩
        · have huz : u = z := by simpa using h
          repeat (first | refine wz ?_ | (refine wzb ?_; intro b_) | fail)
          exact ⟨⟨i + 1, by omega, by rw [List.take_add_one, List.take_add_one, hu, hz, ht, huz]⟩, ⟨rfl, rfl, slot_int (by dsimp only; omega), trivial⟩, Gives.refl _, by dsimp only; omega⟩
      · exfalso
        have hii : i = x.r.n := by simp at h; omega
        rw [List.take_of_length_le (by omega), List.take_of_length_le (by omega)] at ht
        exact hl ht
    · have hne : ((x.r.n : Int) != (y.r.n : Int)) = true := by simp; omega
      refine fn_enter Tryz.func28 rfl rfl (by kernel_rfl) rfl ?_; intro w0
      repeat (first | ((first | (apply lx_gt; exact rfl; exact rfl; exact rfl) | (apply lx_u; exact rfl) | (apply lx_g; exact rfl; exact rfl)); first | (apply isy_bin_neq; exact yl_true (yl_op (E := EV) rfl) (fun _ => hne)) | fail) | refine wzf ?_ | (refine wzb ?_; intro b_) | fail)
      refine cx_cond rfl (fun _ => ?_) (fun h => absurd h (by decide))
      repeat (first | refine wz ?_ | (refine wzb ?_; intro b_) | fail)
      exact bq_ret (ret_tmp rfl rfl) [] (Gives.nil _) rfl ⟨rfl, rfl⟩
end Go.Proofs.YtmochicneilhhaaGreat.sc
