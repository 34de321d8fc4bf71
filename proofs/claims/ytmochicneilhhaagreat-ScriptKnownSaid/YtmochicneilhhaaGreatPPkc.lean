/- packed numbers and texts: the program's reader, on. -/
import Derived.Test.YtmochicneilhhaaGreatPGo
import Derived.Test.YtmochicneilhhaaGreatPPkb
--SHORT 1
namespace Go.Proofs.YtmochicneilhhaaGreat.pk
open Go.RowKit Go.Proofs.YtmochicneilhhaaGreat.kit
theorem Rs.Ok.gotS {r : Rs} (h : r.Ok) (k : Nat) : ∃ A' c', r.gotV k = .slice A' (r.got k).length c' ∧ ∀ (L : List Ck) (i : Nat), L[i]? = some r.ro → Gives L (.ro A' (r.got k).length 1 (bvs (r.got k)) :: L) := by
  by_cases hm : r.may k = true
  · have hm' := hm
    simp only [Rs.may, Bool.and_eq_true, decide_eq_true_eq] at hm'
    have hl : (r.got k).length = k := by rw [Rs.got, if_pos hm, List.length_take, h.len]; omega
    refine ⟨r.A, r.c, by rw [Rs.gotV, if_pos hm, hl], fun L i hi => Gives.add i hi rfl rfl fun w hr => ⟨by rw [hl]; exact Rs.got_row k hr hm, fun b hb => ⟨by have := hb.1; rw [hl] at this; omega, hb.2⟩⟩⟩
  · have hg : r.got k = [] := by rw [Rs.got, if_neg hm]
    refine ⟨none, 0, by rw [Rs.gotV, if_neg hm, hg]; rfl, fun L i hi => ?_⟩
    rw [hg]
    exact Gives.add i hi rfl rfl fun w hr => ⟨Row.nil, fun b hb => absurd rfl hb.1⟩
/-- a reader's text -/
def Rs.textN (r : Rs) : Nat := ((de 0#64 (r.got 2)).setWidth 16).toNat
def Rs.text (r : Rs) : List B8 := (r.adv 2).got r.textN
def Rs.textTo (r : Rs) : Rs := if (r.adv 2).may r.textN then (r.adv 2).adv r.textN else { r with e := ((r.adv 2).adv r.textN).e }
attribute [local irreducible] LX CX Yl Gives RetIs Fn
attribute [local irreducible] be de

set_option maxHeartbeats 1000000 in
theorem take8_any (b : Nat) (r : Rs) (hr : r.Ok) (k : Nat) (hk : k ≤ 8) : Fn Tryz.prog 172 [.pointer (some ⟨b, 0, none⟩), .int .i64 k] [r.blk b, r.ro] [b]
    fun v Lo => v = .int .u8 (((de 0#64 (r.got k)).setWidth 8)).toNat ∧ Lo = [(r.adv k).blk b] := by
  obtain ⟨A', c', hgv, hgs⟩ := hr.gotS k
  have hb := bytes_fn b r hr k (by omega)
  rw [hgv] at hb
  have hlen : (r.got k).length ≤ 9223372036854775807 := by
    have h1 := hr.len
    have h2 := hr.cap
    have h3 := hr.max
    unfold Rs.got
    split
    · rw [List.length_take]; omega
    · simp
  refine fn_enter Tryz.func172 rfl rfl (by kernel_rfl) rfl ?_
  intro w0
  repeat (first | (refine isx_call ?_; refine k_call (hb) [0] [0] [1] rfl rfl rfl rfl rfl rfl rfl rfl ?_; rintro v_ Lo_ ⟨rfl, rfl⟩) | refine wz ?_ | (refine wzb ?_; intro b_) | fail)
  generalize r.got k = g at hlen hgs ⊢
  refine cx_loop (α := { i : Nat // i ≤ g.length }) (fun y => [(7, none, .int .u64 (de 0#64 (g.take y.1)).toNat), (16, none, .slice A' g.length c'), (17, none, .int .i64 g.length), (18, none, .int .i64 y.1)])
    (fun _ => [.ro A' g.length 1 (bvs g), (r.adv k).blk b, r.ro]) (fun y => g.length - y.1) ⟨0, Nat.zero_le _⟩ ⟨by unfold de; rfl, rfl, rfl, rfl, trivial⟩ (hgs _ 1 rfl) ?_
  rintro ⟨i, hi⟩
  dsimp only
  repeat (first | refine wz ?_ | (refine wzb ?_; intro b_) | fail)
  refine cx_cond rfl (fun h => ?_) (fun h => ?_)
  · have hlt : i < g.length := by simp at h; omega
    obtain ⟨x, hx⟩ : ∃ x, g[i]? = some x := ⟨_, List.getElem?_eq_getElem hlt⟩
    have hx0 : (bvs g)[mulI i 1]? = some (bv x) := bvs_get hx
    have hstep := de_take 0#64 hx
    repeat (first | ((first | (apply lx_u; exact rfl) | (apply lx_g; exact rfl; exact rfl)); first | (apply isy_indexAddr; exact q_ix 0 rfl rfl rfl rfl rfl) | (apply isy_load; exact q_li 0 rfl rfl rfl rfl hx0) | (apply isy_bin_shl; exact q_bshl uk64 _ 8 rfl rfl rfl rfl) | (apply isy_convert; exact q_cv uk64 x rfl rfl rfl rfl) | (apply isy_bin_or; exact q_bor uk64 _ _ rfl rfl rfl rfl) | fail) | refine wz ?_ | (refine wzb ?_; intro b_) | fail)
    exact ⟨⟨i + 1, by omega⟩, ⟨slot_int (by dsimp only; rw [hstep]), rfl, rfl, slot_int (by dsimp only; omega), trivial⟩, Gives.refl _, by dsimp only; omega⟩
  · obtain rfl : i = g.length := by simp at h; omega
    rw [List.take_of_length_le (Nat.le_refl _)]
    repeat (first | ((first | (apply lx_u; exact rfl) | (apply lx_g; exact rfl; exact rfl)); first | (apply isy_convert; exact q_cv uk8 _ rfl rfl rfl rfl) | fail) | refine wz ?_ | (refine wzb ?_; intro b_) | fail)
    exact bq_ret (ret_tmp rfl rfl) [_] (Gives.pick [1] (by decide) rfl) rfl ⟨rfl, rfl⟩
set_option maxHeartbeats 1000000 in
theorem take16_any (b : Nat) (r : Rs) (hr : r.Ok) (k : Nat) (hk : k ≤ 8) : Fn Tryz.prog 169 [.pointer (some ⟨b, 0, none⟩), .int .i64 k] [r.blk b, r.ro] [b]
    fun v Lo => v = .int .u16 (((de 0#64 (r.got k)).setWidth 16)).toNat ∧ Lo = [(r.adv k).blk b] := by
  obtain ⟨A', c', hgv, hgs⟩ := hr.gotS k
  have hb := bytes_fn b r hr k (by omega)
  rw [hgv] at hb
  have hlen : (r.got k).length ≤ 9223372036854775807 := by
    have h1 := hr.len
    have h2 := hr.cap
    have h3 := hr.max
    unfold Rs.got
    split
    · rw [List.length_take]; omega
    · simp
  refine fn_enter Tryz.func169 rfl rfl (by kernel_rfl) rfl ?_
  intro w0
  repeat (first | (refine isx_call ?_; refine k_call (hb) [0] [0] [1] rfl rfl rfl rfl rfl rfl rfl rfl ?_; rintro v_ Lo_ ⟨rfl, rfl⟩) | refine wz ?_ | (refine wzb ?_; intro b_) | fail)
  generalize r.got k = g at hlen hgs ⊢
  refine cx_loop (α := { i : Nat // i ≤ g.length }) (fun y => [(7, none, .int .u64 (de 0#64 (g.take y.1)).toNat), (16, none, .slice A' g.length c'), (17, none, .int .i64 g.length), (18, none, .int .i64 y.1)])
    (fun _ => [.ro A' g.length 1 (bvs g), (r.adv k).blk b, r.ro]) (fun y => g.length - y.1) ⟨0, Nat.zero_le _⟩ ⟨by unfold de; rfl, rfl, rfl, rfl, trivial⟩ (hgs _ 1 rfl) ?_
  rintro ⟨i, hi⟩
  dsimp only
  repeat (first | refine wz ?_ | (refine wzb ?_; intro b_) | fail)
  refine cx_cond rfl (fun h => ?_) (fun h => ?_)
  · have hlt : i < g.length := by simp at h; omega
    obtain ⟨x, hx⟩ : ∃ x, g[i]? = some x := ⟨_, List.getElem?_eq_getElem hlt⟩
    have hx0 : (bvs g)[mulI i 1]? = some (bv x) := bvs_get hx
    have hstep := de_take 0#64 hx
    repeat (first | ((first | (apply lx_u; exact rfl) | (apply lx_g; exact rfl; exact rfl)); first | (apply isy_indexAddr; exact q_ix 0 rfl rfl rfl rfl rfl) | (apply isy_load; exact q_li 0 rfl rfl rfl rfl hx0) | (apply isy_bin_shl; exact q_bshl uk64 _ 8 rfl rfl rfl rfl) | (apply isy_convert; exact q_cv uk64 x rfl rfl rfl rfl) | (apply isy_bin_or; exact q_bor uk64 _ _ rfl rfl rfl rfl) | fail) | refine wz ?_ | (refine wzb ?_; intro b_) | fail)
    exact ⟨⟨i + 1, by omega⟩, ⟨slot_int (by dsimp only; rw [hstep]), rfl, rfl, slot_int (by dsimp only; omega), trivial⟩, Gives.refl _, by dsimp only; omega⟩
  · obtain rfl : i = g.length := by simp at h; omega
    rw [List.take_of_length_le (Nat.le_refl _)]
    repeat (first | ((first | (apply lx_u; exact rfl) | (apply lx_g; exact rfl; exact rfl)); first | (apply isy_convert; exact q_cv uk16 _ rfl rfl rfl rfl) | fail) | refine wz ?_ | (refine wzb ?_; intro b_) | fail)
    exact bq_ret (ret_tmp rfl rfl) [_] (Gives.pick [1] (by decide) rfl) rfl ⟨rfl, rfl⟩
set_option maxHeartbeats 1000000 in
theorem take32_any (b : Nat) (r : Rs) (hr : r.Ok) (k : Nat) (hk : k ≤ 8) : Fn Tryz.prog 171 [.pointer (some ⟨b, 0, none⟩), .int .i64 k] [r.blk b, r.ro] [b]
    fun v Lo => v = .int .u32 (((de 0#64 (r.got k)).setWidth 32)).toNat ∧ Lo = [(r.adv k).blk b] := by
  obtain ⟨A', c', hgv, hgs⟩ := hr.gotS k
  have hb := bytes_fn b r hr k (by omega)
  rw [hgv] at hb
  have hlen : (r.got k).length ≤ 9223372036854775807 := by
    have h1 := hr.len
    have h2 := hr.cap
    have h3 := hr.max
    unfold Rs.got
    split
    · rw [List.length_take]; omega
    · simp
  refine fn_enter Tryz.func171 rfl rfl (by kernel_rfl) rfl ?_
  intro w0
  repeat (first | (refine isx_call ?_; refine k_call (hb) [0] [0] [1] rfl rfl rfl rfl rfl rfl rfl rfl ?_; rintro v_ Lo_ ⟨rfl, rfl⟩) | refine wz ?_ | (refine wzb ?_; intro b_) | fail)
  generalize r.got k = g at hlen hgs ⊢
  refine cx_loop (α := { i : Nat // i ≤ g.length }) (fun y => [(7, none, .int .u64 (de 0#64 (g.take y.1)).toNat), (16, none, .slice A' g.length c'), (17, none, .int .i64 g.length), (18, none, .int .i64 y.1)])
    (fun _ => [.ro A' g.length 1 (bvs g), (r.adv k).blk b, r.ro]) (fun y => g.length - y.1) ⟨0, Nat.zero_le _⟩ ⟨by unfold de; rfl, rfl, rfl, rfl, trivial⟩ (hgs _ 1 rfl) ?_
  rintro ⟨i, hi⟩
  dsimp only
  repeat (first | refine wz ?_ | (refine wzb ?_; intro b_) | fail)
  refine cx_cond rfl (fun h => ?_) (fun h => ?_)
  · have hlt : i < g.length := by simp at h; omega
    obtain ⟨x, hx⟩ : ∃ x, g[i]? = some x := ⟨_, List.getElem?_eq_getElem hlt⟩
    have hx0 : (bvs g)[mulI i 1]? = some (bv x) := bvs_get hx
    have hstep := de_take 0#64 hx
    repeat (first | ((first | (apply lx_u; exact rfl) | (apply lx_g; exact rfl; exact rfl)); first | (apply isy_indexAddr; exact q_ix 0 rfl rfl rfl rfl rfl) | (apply isy_load; exact q_li 0 rfl rfl rfl rfl hx0) | (apply isy_bin_shl; exact q_bshl uk64 _ 8 rfl rfl rfl rfl) | (apply isy_convert; exact q_cv uk64 x rfl rfl rfl rfl) | (apply isy_bin_or; exact q_bor uk64 _ _ rfl rfl rfl rfl) | fail) | refine wz ?_ | (refine wzb ?_; intro b_) | fail)
    exact ⟨⟨i + 1, by omega⟩, ⟨slot_int (by dsimp only; rw [hstep]), rfl, rfl, slot_int (by dsimp only; omega), trivial⟩, Gives.refl _, by dsimp only; omega⟩
  · obtain rfl : i = g.length := by simp at h; omega
    rw [List.take_of_length_le (Nat.le_refl _)]
    repeat (first | ((first | (apply lx_u; exact rfl) | (apply lx_g; exact rfl; exact rfl)); first | (apply isy_convert; exact q_cv uk32 _ rfl rfl rfl rfl) | fail) | refine wz ?_ | (refine wzb ?_; intro b_) | fail)
    exact bq_ret (ret_tmp rfl rfl) [_] (Gives.pick [1] (by decide) rfl) rfl ⟨rfl, rfl⟩
set_option maxHeartbeats 1000000 in
theorem take64_any (b : Nat) (r : Rs) (hr : r.Ok) (k : Nat) (hk : k ≤ 8) : Fn Tryz.prog 170 [.pointer (some ⟨b, 0, none⟩), .int .i64 k] [r.blk b, r.ro] [b]
    fun v Lo => v = .int .u64 ((de 0#64 (r.got k))).toNat ∧ Lo = [(r.adv k).blk b] := by
  obtain ⟨A', c', hgv, hgs⟩ := hr.gotS k
  have hb := bytes_fn b r hr k (by omega)
  rw [hgv] at hb
  have hlen : (r.got k).length ≤ 9223372036854775807 := by
    have h1 := hr.len
    have h2 := hr.cap
    have h3 := hr.max
    unfold Rs.got
    split
    · rw [List.length_take]; omega
    · simp
  refine fn_enter Tryz.func170 rfl rfl (by kernel_rfl) rfl ?_
  intro w0
  repeat (first | (refine isx_call ?_; refine k_call (hb) [0] [0] [1] rfl rfl rfl rfl rfl rfl rfl rfl ?_; rintro v_ Lo_ ⟨rfl, rfl⟩) | refine wz ?_ | (refine wzb ?_; intro b_) | fail)
  generalize r.got k = g at hlen hgs ⊢
  refine cx_loop (α := { i : Nat // i ≤ g.length }) (fun y => [(7, none, .int .u64 (de 0#64 (g.take y.1)).toNat), (16, none, .slice A' g.length c'), (17, none, .int .i64 g.length), (18, none, .int .i64 y.1)])
    (fun _ => [.ro A' g.length 1 (bvs g), (r.adv k).blk b, r.ro]) (fun y => g.length - y.1) ⟨0, Nat.zero_le _⟩ ⟨by unfold de; rfl, rfl, rfl, rfl, trivial⟩ (hgs _ 1 rfl) ?_
  rintro ⟨i, hi⟩
  dsimp only
  repeat (first | refine wz ?_ | (refine wzb ?_; intro b_) | fail)
  refine cx_cond rfl (fun h => ?_) (fun h => ?_)
  · have hlt : i < g.length := by simp at h; omega
    obtain ⟨x, hx⟩ : ∃ x, g[i]? = some x := ⟨_, List.getElem?_eq_getElem hlt⟩
    have hx0 : (bvs g)[mulI i 1]? = some (bv x) := bvs_get hx
    have hstep := de_take 0#64 hx
    repeat (first | ((first | (apply lx_u; exact rfl) | (apply lx_g; exact rfl; exact rfl)); first | (apply isy_indexAddr; exact q_ix 0 rfl rfl rfl rfl rfl) | (apply isy_load; exact q_li 0 rfl rfl rfl rfl hx0) | (apply isy_bin_shl; exact q_bshl uk64 _ 8 rfl rfl rfl rfl) | (apply isy_convert; exact q_cv uk64 x rfl rfl rfl rfl) | (apply isy_bin_or; exact q_bor uk64 _ _ rfl rfl rfl rfl) | fail) | refine wz ?_ | (refine wzb ?_; intro b_) | fail)
    exact ⟨⟨i + 1, by omega⟩, ⟨slot_int (by dsimp only; rw [hstep]), rfl, rfl, slot_int (by dsimp only; omega), trivial⟩, Gives.refl _, by dsimp only; omega⟩
  · obtain rfl : i = g.length := by simp at h; omega
    rw [List.take_of_length_le (Nat.le_refl _)]
    repeat (first | ((first | (apply lx_u; exact rfl) | (apply lx_g; exact rfl; exact rfl)); first | (apply isy_convert; exact q_cv uk64 _ rfl rfl rfl rfl) | fail) | refine wz ?_ | (refine wzb ?_; intro b_) | fail)
    exact bq_ret (ret_tmp rfl rfl) [_] (Gives.pick [1] (by decide) rfl) rfl ⟨rfl, rfl⟩
theorem u8_fn (b : Nat) (r : Rs) (hr : r.Ok) : Fn Tryz.prog 159 [.pointer (some ⟨b, 0, none⟩)] [r.blk b, r.ro] [b]
    fun v Lo => v = .int .u8 (((de 0#64 (r.got 1)).setWidth 8)).toNat ∧ Lo = [(r.adv 1).blk b] := by
  refine fn_enter Tryz.func159 rfl rfl (by kernel_rfl) rfl ?_
  intro w0
  repeat (first | (refine isx_call ?_; refine k_call (take8_any b r hr 1 (by omega)) [0, 1] [0] [1] rfl rfl rfl rfl rfl rfl rfl rfl ?_; rintro v_ Lo_ ⟨rfl, rfl⟩) | refine wz ?_ | (refine wzb ?_; intro b_) | fail)
  exact bq_ret (ret_tmp rfl rfl) [_] (Gives.pick [0] (by decide) rfl) rfl ⟨rfl, rfl⟩
theorem u16_fn (b : Nat) (r : Rs) (hr : r.Ok) : Fn Tryz.prog 153 [.pointer (some ⟨b, 0, none⟩)] [r.blk b, r.ro] [b]
    fun v Lo => v = .int .u16 (((de 0#64 (r.got 2)).setWidth 16)).toNat ∧ Lo = [(r.adv 2).blk b] := by
  refine fn_enter Tryz.func153 rfl rfl (by kernel_rfl) rfl ?_
  intro w0
  repeat (first | (refine isx_call ?_; refine k_call (take16_any b r hr 2 (by omega)) [0, 1] [0] [1] rfl rfl rfl rfl rfl rfl rfl rfl ?_; rintro v_ Lo_ ⟨rfl, rfl⟩) | refine wz ?_ | (refine wzb ?_; intro b_) | fail)
  exact bq_ret (ret_tmp rfl rfl) [_] (Gives.pick [0] (by decide) rfl) rfl ⟨rfl, rfl⟩
theorem u32_fn (b : Nat) (r : Rs) (hr : r.Ok) : Fn Tryz.prog 156 [.pointer (some ⟨b, 0, none⟩)] [r.blk b, r.ro] [b]
    fun v Lo => v = .int .u32 (((de 0#64 (r.got 4)).setWidth 32)).toNat ∧ Lo = [(r.adv 4).blk b] := by
  refine fn_enter Tryz.func156 rfl rfl (by kernel_rfl) rfl ?_
  intro w0
  repeat (first | (refine isx_call ?_; refine k_call (take32_any b r hr 4 (by omega)) [0, 1] [0] [1] rfl rfl rfl rfl rfl rfl rfl rfl ?_; rintro v_ Lo_ ⟨rfl, rfl⟩) | refine wz ?_ | (refine wzb ?_; intro b_) | fail)
  exact bq_ret (ret_tmp rfl rfl) [_] (Gives.pick [0] (by decide) rfl) rfl ⟨rfl, rfl⟩
theorem u64_fn (b : Nat) (r : Rs) (hr : r.Ok) : Fn Tryz.prog 154 [.pointer (some ⟨b, 0, none⟩)] [r.blk b, r.ro] [b]
    fun v Lo => v = .int .u64 ((de 0#64 (r.got 8))).toNat ∧ Lo = [(r.adv 8).blk b] := by
  refine fn_enter Tryz.func154 rfl rfl (by kernel_rfl) rfl ?_
  intro w0
  repeat (first | (refine isx_call ?_; refine k_call (take64_any b r hr 8 (by omega)) [0, 1] [0] [1] rfl rfl rfl rfl rfl rfl rfl rfl ?_; rintro v_ Lo_ ⟨rfl, rfl⟩) | refine wz ?_ | (refine wzb ?_; intro b_) | fail)
  exact bq_ret (ret_tmp rfl rfl) [_] (Gives.pick [0] (by decide) rfl) rfl ⟨rfl, rfl⟩
theorem int_fn (b : Nat) (r : Rs) (hr : r.Ok) : Fn Tryz.prog 138 [.pointer (some ⟨b, 0, none⟩)] [r.blk b, r.ro] [b]
    fun v Lo => v = .int .i64 (de 0#64 (r.got 8)).toInt ∧ Lo = [(r.adv 8).blk b] := by
  refine fn_enter Tryz.func138 rfl rfl (by kernel_rfl) rfl ?_
  intro w0
  repeat (first | ((first | (apply lx_u; exact rfl) | (apply lx_g; exact rfl; exact rfl)); first | (apply isy_convert; exact q_cs _ rfl rfl rfl rfl) | fail) | (refine isx_call ?_; refine k_call (u64_fn b r hr) [0, 1] [0] [1] rfl rfl rfl rfl rfl rfl rfl rfl ?_; rintro v_ Lo_ ⟨rfl, rfl⟩) | refine wz ?_ | (refine wzb ?_; intro b_) | fail)
  exact bq_ret (ret_tmp rfl rfl) [_] (Gives.pick [0] (by decide) rfl) rfl ⟨rfl, rfl⟩
set_option maxHeartbeats 1000000 in
theorem text_fn (b : Nat) (r : Rs) (hr : r.Ok) : Fn Tryz.prog 137 [.pointer (some ⟨b, 0, none⟩)] [r.blk b, r.ro] [b]
    fun v Lo => v = .string (sb r.text) ∧ Lo = [r.textTo.blk b] := by
  have hlt : r.textN < 65536 := ((de 0#64 (r.got 2)).setWidth 16).isLt
  have hr1 := hr.adv 2
  obtain ⟨A', c', hgv, hgs⟩ := hr1.gotS r.textN
  have hb := bytes_fn b (r.adv 2) hr1 r.textN (by omega)
  rw [hgv] at hb
  refine fn_enter Tryz.func137 rfl rfl (by kernel_rfl) rfl ?_
  intro w0
  repeat (first | refine wz ?_ | (refine wzb ?_; intro b_) | fail)
  refine cx_cond rfl (fun h => by cases h) (fun _ => ?_)
  repeat (first | ((first | (apply lx_u; exact rfl) | (apply lx_g; exact rfl; exact rfl)); first | (apply isy_convert; exact q_cn rfl rfl rfl (hb := (fun _ => by unfold Rs.textN at hlt; omega))) | fail) | (refine isx_call ?_; refine k_call (u16_fn b r hr) [0, 1] [0] [1] rfl rfl rfl rfl rfl rfl rfl rfl ?_; rintro v_ Lo_ ⟨rfl, rfl⟩) | (refine isx_call ?_; refine k_call (hb) [0] [0] [1] rfl rfl rfl rfl rfl rfl rfl rfl ?_; rintro v_ Lo_ ⟨rfl, rfl⟩) | refine wz ?_ | (refine wzb ?_; intro b_) | fail)
  refine cx_cond rfl (fun h => ?_) (fun h => ?_)
  · have hm : (r.adv 2).may r.textN = false := by simpa using h
    repeat (first | refine wz ?_ | (refine wzb ?_; intro b_) | fail)
    refine bq_ret (ret_tmp rfl rfl) [_] (Gives.pick [0] (by decide) rfl) rfl ⟨?_, ?_⟩
    · rw [Rs.text, Rs.got, if_neg (by rw [hm]; simp)]
      rfl
    · rw [Rs.textTo, if_neg (by rw [hm]; simp)]
      rfl
  · have hm : (r.adv 2).may r.textN = true := by simpa using h
    refine cx_weakL (L' := [.ro A' ((r.adv 2).got r.textN).length 1 (bvs ((r.adv 2).got r.textN)), ((r.adv 2).adv r.textN).blk b]) (((hr.gives 1 2 rfl).trans (hgs _ 0 rfl)).trans (Gives.pick [0, 2] (by decide) rfl)) ?_
    repeat (first | ((first | (apply lx_u; exact rfl) | (apply lx_g; exact rfl; exact rfl)); first | (apply isy_convert; exact q_text rfl rfl rfl rfl (fun _ _ hm => row_ro 0 rfl hm)) | fail) | refine wz ?_ | (refine wzb ?_; intro b_) | fail)
    refine bq_ret (ret_tmp rfl rfl) [_] (Gives.pick [1] (by decide) rfl) rfl ⟨rfl, ?_⟩
    rw [Rs.textTo, if_pos hm]
theorem err_fn (b : Nat) (r : Rs) : Fn Tryz.prog 160 [.pointer (some ⟨b, 0, none⟩)] [.ro (some ⟨b, 0, none⟩) 2 1 [.slice r.A r.n r.c, .int .i64 r.e]] [] fun v Lo => v = .int .i64 r.e ∧ Lo = [] := by
  refine fn_enter Tryz.func160 rfl rfl (by kernel_rfl) rfl ?_
  intro w0
  repeat (first | refine wz ?_ | (refine wzb ?_; intro b_) | fail)
  refine cx_cond rfl (fun h => by cases h) (fun _ => ?_)
  repeat (first | refine wz ?_ | (refine wzb ?_; intro b_) | fail)
  exact bq_ret (ret_tmp rfl rfl) [] (Gives.nil _) rfl ⟨rfl, rfl⟩
def Rs.done (r : Rs) : Int := if r.e ≠ 0 then r.e else if r.n = 0 then 0 else 21

theorem done_fn (b : Nat) (r : Rs) : Fn Tryz.prog 161 [.pointer (some ⟨b, 0, none⟩)] [.ro (some ⟨b, 0, none⟩) 2 1 [.slice r.A r.n r.c, .int .i64 r.e]] [] fun v Lo => v = .int .i64 r.done ∧ Lo = [] := by
  refine fn_enter Tryz.func161 rfl rfl (by kernel_rfl) rfl ?_
  intro w0
  repeat (first | (refine isx_call ?_; refine k_gcall (err_fn b r) ((fun w hm => hm.ros [0] (by decide) rfl rfl)) rfl rfl rfl rfl rfl rfl ?_) | refine wz ?_ | (refine wzb ?_; intro b_) | fail)
  refine cx_cond rfl (fun h => ?_) (fun h => ?_)
  · have hd : r.done = r.e := by
      simp at h
      unfold Rs.done
      split
      · rfl
      · rw [if_pos (by omega)]; omega
    rw [hd]
    repeat (first | refine wz ?_ | (refine wzb ?_; intro b_) | fail)
    exact bq_ret (ret_tmp rfl rfl) [] (Gives.nil _) rfl ⟨rfl, rfl⟩
  · have hd : r.done = 21 := by
      simp at h
      unfold Rs.done
      rw [if_neg (by omega), if_neg (by omega)]
    rw [hd]
    repeat (first | refine wz ?_ | (refine wzb ?_; intro b_) | fail)
    exact bq_ret (ret_tmp rfl rfl) [] (Gives.nil _) rfl ⟨rfl, rfl⟩
theorem clone_fn (A : Option Addr) (n c : Nat) (l : List B8) (hl : l.length = n) (hn : n ≤ 140737488355328) (hc : n ≤ c) : Fn Tryz.prog 157 [.slice A n c] [.ro A n 1 (bvs l)] [] fun v Lo => ∃ A' c', v = .slice A' n c' ∧ Lo = [.own A' n c' 5 1 (bvs l)] := by
  refine fn_enter Tryz.func157 rfl rfl (by kernel_rfl) rfl ?_
  intro w0
  refine cx_fact (φ := A = none → n = 0) (fun w hm hA => ?_) fun hA => ?_
  · rcases Nat.eq_zero_or_pos n with h0 | h0
    · exact h0
    · obtain ⟨b, off, h, _⟩ := (row_ro 0 rfl hm).2 h0
      rw [hA] at h
      cases h
  repeat (first | refine wz ?_ | (refine wzb ?_; intro b_) | fail)
  refine cx_cond rfl (fun h => ?_) (fun h => ?_)
  · have h0 : n = 0 := hA (by simpa using h)
    subst h0
    obtain rfl := List.eq_nil_of_length_eq_zero hl
    repeat (first | refine wz ?_ | (refine wzb ?_; intro b_) | fail)
    exact bq_ret (ret_tmp rfl rfl) [_] ((Gives.nilown _ 5 1).trans (Gives.pick [0] (by decide) rfl)) rfl ⟨none, 0, rfl, rfl⟩
  repeat (first | (refine isx_row ?_; refine lx_row0 (E := EV) rfl rfl rfl rfl rfl rfl rfl ?_; intro b_) | refine wz ?_ | (refine wzb ?_; intro b_) | fail)
  refine lx_weak (Gives.blkown 0 (m := 0) (sz := 1) rfl rfl (Nat.zero_le _)) ?_
  refine lx_append (E := EV) 0 rfl rfl rfl rfl rfl rfl rfl rfl rfl rfl rfl rfl rfl (news := bvs l) (fun w hm => row_ro 1 rfl hm) bvs_one (by unfold maxLen; omega) (by show (0 + n) * 1 ≤ _; omega) (fun _ _ _ => trivial) ?_
  intro A' c'
  repeat (first | refine wz ?_ | (refine wzb ?_; intro b_) | fail)
  exact bq_ret (ret_tmp rfl rfl) [_] (Gives.pick [0] (by decide) rfl) rfl ⟨A', c', by rw [Nat.zero_add], by rw [Nat.zero_add]; rfl⟩


theorem of_fn (A : Option Addr) (n c : Nat) (l : List B8) (hl : l.length = n) (hn : n ≤ 140737488355328) (hc : n ≤ c) : Fn Tryz.prog 155 [.slice A n c] [.ro A n 1 (bvs l)] [] fun v Lo => ∃ b A' c', v = .pointer (some ⟨b, 0, none⟩) ∧ Lo = [.blk b [.slice A' n c', .int .i64 0] 220, .own A' n c' 5 1 (bvs l)] := by
  refine fn_enter Tryz.func155 rfl rfl (by kernel_rfl) rfl ?_
  intro w0
  repeat (first | (refine isx_call ?_; (refine lx_call0 (clone_fn A n c l hl hn hc) ((fun w hm => hm.ros [0] (by decide) rfl rfl)) rfl rfl rfl rfl rfl rfl rfl rfl ?_; rintro v_ Lo_ ⟨A_, c_, rfl, rfl⟩)) | refine wz ?_ | (refine wzb ?_; intro b_) | fail)
  exact bq_ret (ret_tmp rfl rfl) [_, _] (Gives.pick [0, 1] (by decide) rfl) rfl ⟨b_, A_, c_, rfl, rfl⟩

end Go.Proofs.YtmochicneilhhaaGreat.pk
