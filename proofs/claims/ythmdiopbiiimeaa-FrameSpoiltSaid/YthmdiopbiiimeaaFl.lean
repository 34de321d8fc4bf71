/- frames: FrameSpoilt. -/
import Derived.Test.YthmdiopbiiimeaaGo
import Derived.Test.YthmdiopbiiimeaaFj
import Derived.Test.YthmdiopbiiimeaaFk
namespace Go.Proofs.Ythmdiopbiiimeaa.fr
open Go.RowKit Go.Proofs.Ythmdiopbiiimeaa.kit Go.Proofs.Ythmdiopbiiimeaa.pk Go.Proofs.Ythmdiopbiiimeaa.chk Go.Proofs.Ythmdiopbiiimeaa.crc
theorem flip_setL {o : List B8} {p : Nat} {x : B8} (hx : o[p / 8]? = some x) : setL (bvs o) (mulI (p / 8) 1) [bv (x ^^^ (1#8 <<< (p % 8)))] = bvs (crc.flip o p) := by
  have hlt := (List.getElem?_eq_some_iff.1 hx).1
  have hg : o.getD (p / 8) 0#8 = x := by rw [List.getD_eq_getElem?_getD, hx]; rfl
  rw [mulI, setL_one _ _ _ (by rw [bvs_len]; exact hlt), crc.flip, hg, bvs, bvs, List.map_set]
theorem quo8 (p : Nat) (h : p < 4611686018427387904) : IntKind.i64.wrap ((p : Int).tdiv 8) = ((p / 8 : Nat) : Int) := by
  rw [Int.tdiv_eq_ediv_of_nonneg (by omega), IntKind.wrap_i64]
  omega
theorem frms_len_le (rs : List Rw) (h : ∀ r ∈ rs, r.l.length ≤ 400) : (frms rs).length ≤ 408 * rs.length := by
  induction rs with
  | nil => simp [frms]
  | cons r rs ih =>
    have h1 := ih (fun x hx => h x (List.mem_cons_of_mem _ hx))
    have h2 := h r (List.mem_cons_self ..)
    have e : frms (r :: rs) = frm r.l ++ frms rs := rfl
    rw [e, List.length_append, frm_len, List.length_cons]
    omega
theorem frms_place {rs : List Rw} {k : Nat} {r : Rw} (hk : rs[k]? = some r) : (frms (rs.take k)).length + (r.l.length + 8) ≤ (frms rs).length := by
  have h1 := frms_take hk
  have h2 : frms rs = frms (rs.take (k + 1)) ++ frms (rs.drop (k + 1)) := by
    rw [frms, frms, frms, ← List.flatMap_append, List.take_append_drop]
  rw [h2, List.length_append, h1, List.length_append, frm_len]
  omega
/-- a row that is one's own, and its bodies, as they are read -/
theorem Gives.fdsOf {A : Option Addr} {n c : Nat} {T : TypeId} {fs : List Fd} (S : List Ck) : Gives ((.own A n c T 2 (fcells fs) :: S) ++ bods fs) (Ck.fds A n fs :: S) := fun M w hm => by
  have hfd : fdP A n fs w := fds_own 0 hm rfl (fun x hx => by simp [hx])
  obtain ⟨h1, _, h3⟩ := List.pairwise_append.1 hm.sep
  refine ⟨hm.keep, fun x hx => ?_, fun x hx hmu => ?_, List.Pairwise.cons (fun x hx hmu b hb hb' => ?_) (List.pairwise_cons.1 h1).2⟩
  · rcases List.mem_cons.1 hx with rfl | hx
    · exact hfd
    · exact hm.all x (by simp [hx])
  · rcases List.mem_cons.1 hx with rfl | hx
    · cases hmu
    · exact hm.out x (by simp [hx]) hmu
  · rcases hb with ⟨hn, hb⟩ | ⟨y, hy, hn, hb⟩
    · exact (List.pairwise_cons.1 h1).1 x hx (.inl rfl) b hb hb'
    · exact h3 x (List.mem_cons_of_mem _ hx) y.body (List.mem_map.2 ⟨y, List.mem_reverse.2 hy, rfl⟩) (.inr rfl) b hb' hb
theorem all_known (A : Option Addr) (n c : Nat) (l : List B8) (ts : Told) (en k : Nat) (h : allF l = (ts, en)) (hk : ts.length = k) (hl : l.length = n) (hc : n ≤ c ∧ c ≤ 9223372036854775807) (hn : n ≤ 1000000) : Fn Try.prog 20 [.slice A n c] [.ro A n 1 (bvs l)] []
    fun v Lo => ∃ A' c' fs, v = .tuple #[.slice A' k c', .int .i64 en] ∧ tell fs = ts ∧ Fit fs ∧ Lo = .own A' k c' 44 2 (fcells fs) :: bods fs := by
  have ha := all_fn A n c l hl hc hn
  unfold AllP at ha
  rw [h] at ha
  refine ha.mono ?_
  rintro v Lo ⟨A', c', fs, rfl, ht, hf, _, rfl⟩
  have : fs.length = k := by rw [← tell_len, ht, hk]
  exact ⟨A', c', fs, by rw [this], ht, hf, by rw [this]⟩
theorem oks_len (rs : List Rw) : (oks rs).length = rs.length := by rw [oks, List.length_map]
attribute [local irreducible] LX CX Yl Gives RetIs Fn
attribute [local irreducible] be de upd takeF num4 sum4 frm allF crc.flip frms oks
set_option maxHeartbeats 8000000 in
theorem spoilt_fn (A : Option Addr) (n c : Nat) (rs : List Rw) (wh bt : Int) (hl : rs.length = n) (hn : n ≤ 9223372036854775807) :
    Fn Try.prog 5 [.slice A n c, .int .i64 wh, .int .i64 bt] [.rows A n rs] [] fun v Lo => v = .bool true ∧ Lo = [] := by
  subst hl
  have hfew := few_fn A rs.length c rs rfl hn
  refine fn_enter Try.func5 rfl rfl (by kernel_rfl) rfl ?_
  intro w0
  by_cases hf : ¬ (few rs = true ∧ rs ≠ [])
  · by_cases h0 : few rs = true
    · obtain rfl : rs = [] := by
        by_cases h1 : rs = []
        · exact h1
        · exact absurd ⟨h0, h1⟩ hf
      rw [h0] at hfew
      repeat (first | refine lx_not rfl rfl rfl rfl ?_ | refine lx_notu rfl rfl rfl rfl rfl ?_ | ((first | (apply lx_gt; exact rfl; exact rfl; exact rfl) | (apply lx_u; exact rfl) | (apply lx_g; exact rfl; exact rfl)); first | (apply isy_bin_eql; exact yl_true (yl_op (E := EV) rfl) (fun _ => rfl)) | fail) | (refine isG ?_; refine gT rfl rfl rfl ?_) | (refine isU ?_; refine gU rfl ?_) | (refine isG ?_; refine gG rfl rfl ?_) | (refine isx_call ?_; refine lx_gcallt (hfew) ((fun w hm => rows_in (hm.get (k := 0) rfl) (in_nil hm) rfl)) rfl rfl rfl rfl rfl rfl rfl ?_) | (refine isx_box ?_; refine gB rfl rfl rfl rfl rfl rfl ?_; intro b_) | (refine isx_alloc ?_; refine gA rfl rfl rfl rfl rfl rfl rfl ?_; intro b_) | (refine isx_store ?_; refine gS 0 rfl rfl rfl rfl rfl rfl rfl rfl rfl rfl ?_) | (refine isx_store ?_; refine gS 1 rfl rfl rfl rfl rfl rfl rfl rfl rfl rfl ?_) | (refine isx_store ?_; refine gS 2 rfl rfl rfl rfl rfl rfl rfl rfl rfl rfl ?_) | (refine isx_store ?_; refine gS 3 rfl rfl rfl rfl rfl rfl rfl rfl rfl rfl ?_) | (refine isx_row ?_; refine lx_row (E := EV) rfl rfl rfl rfl rfl rfl rfl rfl rfl rfl rfl rfl rfl ?_; intro b_) | refine lx_nil ?_ | with_reducible refine tq_n ?_ | with_reducible refine tq_r ?_ | with_reducible refine tq_e ?_ | with_reducible refine bk_n ?_ | with_reducible refine bk_r ?_ | (with_reducible refine bk_e ?_ ?_; exact rfl) | (with_reducible refine bk_x ?_ ?_; exact rfl) | refine cx_seq ?_ | refine cx_region ?_ | refine cx_block ?_ | refine cx_ret ?_ | refine cx_skip ?_ | refine cx_exit ?_ | fail)
      refine cx_cond rfl (fun _ => ?_) (fun h => absurd h (by decide))
      repeat (first | (refine isU ?_; refine gU rfl ?_) | (refine isG ?_; refine gG rfl rfl ?_) | (refine isx_call ?_; refine k_gcall (works_fn) (fun _ hm => in_nil hm) rfl rfl rfl rfl rfl rfl ?_) | (refine isx_box ?_; refine gB rfl rfl rfl rfl rfl rfl ?_; intro b_) | (refine isx_alloc ?_; refine gA rfl rfl rfl rfl rfl rfl rfl ?_; intro b_) | (refine isx_store ?_; refine gS 0 rfl rfl rfl rfl rfl rfl rfl rfl rfl rfl ?_) | (refine isx_store ?_; refine gS 1 rfl rfl rfl rfl rfl rfl rfl rfl rfl rfl ?_) | (refine isx_store ?_; refine gS 2 rfl rfl rfl rfl rfl rfl rfl rfl rfl rfl ?_) | (refine isx_store ?_; refine gS 3 rfl rfl rfl rfl rfl rfl rfl rfl rfl rfl ?_) | (refine isx_row ?_; refine lx_row (E := EV) rfl rfl rfl rfl rfl rfl rfl rfl rfl rfl rfl rfl rfl ?_; intro b_) | refine lx_nil ?_ | with_reducible refine tq_n ?_ | with_reducible refine tq_r ?_ | with_reducible refine tq_e ?_ | with_reducible refine bk_n ?_ | with_reducible refine bk_r ?_ | (with_reducible refine bk_e ?_ ?_; exact rfl) | (with_reducible refine bk_x ?_ ?_; exact rfl) | refine cx_seq ?_ | refine cx_region ?_ | refine cx_block ?_ | refine cx_ret ?_ | refine cx_skip ?_ | refine cx_exit ?_ | fail)
      exact bq_ret (ret_tmp rfl rfl) [] (Gives.nil _) rfl ⟨rfl, rfl⟩
    have h1 : few rs = false := by simpa using h0
    rw [h1] at hfew
    repeat (first | refine lx_not rfl rfl rfl rfl ?_ | refine lx_notu rfl rfl rfl rfl rfl ?_ | (refine isG ?_; refine gT rfl rfl rfl ?_) | (refine isU ?_; refine gU rfl ?_) | (refine isG ?_; refine gG rfl rfl ?_) | (refine isx_call ?_; refine lx_gcallt (hfew) ((fun w hm => rows_in (hm.get (k := 0) rfl) (in_nil hm) rfl)) rfl rfl rfl rfl rfl rfl rfl ?_) | (refine isx_box ?_; refine gB rfl rfl rfl rfl rfl rfl ?_; intro b_) | (refine isx_alloc ?_; refine gA rfl rfl rfl rfl rfl rfl rfl ?_; intro b_) | (refine isx_store ?_; refine gS 0 rfl rfl rfl rfl rfl rfl rfl rfl rfl rfl ?_) | (refine isx_store ?_; refine gS 1 rfl rfl rfl rfl rfl rfl rfl rfl rfl rfl ?_) | (refine isx_store ?_; refine gS 2 rfl rfl rfl rfl rfl rfl rfl rfl rfl rfl ?_) | (refine isx_store ?_; refine gS 3 rfl rfl rfl rfl rfl rfl rfl rfl rfl rfl ?_) | (refine isx_row ?_; refine lx_row (E := EV) rfl rfl rfl rfl rfl rfl rfl rfl rfl rfl rfl rfl rfl ?_; intro b_) | refine lx_nil ?_ | with_reducible refine tq_n ?_ | with_reducible refine tq_r ?_ | with_reducible refine tq_e ?_ | with_reducible refine bk_n ?_ | with_reducible refine bk_r ?_ | (with_reducible refine bk_e ?_ ?_; exact rfl) | (with_reducible refine bk_x ?_ ?_; exact rfl) | refine cx_seq ?_ | refine cx_region ?_ | refine cx_block ?_ | refine cx_ret ?_ | refine cx_skip ?_ | refine cx_exit ?_ | fail)
    refine cx_cond rfl (fun _ => ?_) (fun h => absurd h (by decide))
    repeat (first | (refine isU ?_; refine gU rfl ?_) | (refine isG ?_; refine gG rfl rfl ?_) | (refine isx_call ?_; refine k_gcall (works_fn) (fun _ hm => in_nil hm) rfl rfl rfl rfl rfl rfl ?_) | (refine isx_box ?_; refine gB rfl rfl rfl rfl rfl rfl ?_; intro b_) | (refine isx_alloc ?_; refine gA rfl rfl rfl rfl rfl rfl rfl ?_; intro b_) | (refine isx_store ?_; refine gS 0 rfl rfl rfl rfl rfl rfl rfl rfl rfl rfl ?_) | (refine isx_store ?_; refine gS 1 rfl rfl rfl rfl rfl rfl rfl rfl rfl rfl ?_) | (refine isx_store ?_; refine gS 2 rfl rfl rfl rfl rfl rfl rfl rfl rfl rfl ?_) | (refine isx_store ?_; refine gS 3 rfl rfl rfl rfl rfl rfl rfl rfl rfl rfl ?_) | (refine isx_row ?_; refine lx_row (E := EV) rfl rfl rfl rfl rfl rfl rfl rfl rfl rfl rfl rfl rfl ?_; intro b_) | refine lx_nil ?_ | with_reducible refine tq_n ?_ | with_reducible refine tq_r ?_ | with_reducible refine tq_e ?_ | with_reducible refine bk_n ?_ | with_reducible refine bk_r ?_ | (with_reducible refine bk_e ?_ ?_; exact rfl) | (with_reducible refine bk_x ?_ ?_; exact rfl) | refine cx_seq ?_ | refine cx_region ?_ | refine cx_block ?_ | refine cx_ret ?_ | refine cx_skip ?_ | refine cx_exit ?_ | fail)
    exact bq_ret (ret_tmp rfl rfl) [] (Gives.nil _) rfl ⟨rfl, rfl⟩
  rw [Classical.not_not] at hf
  obtain ⟨hfw, hne⟩ := hf
  have h0 : (((rs.length : Nat) : Int) == 0) = false := by
    have := List.length_pos_iff.2 hne
    simp
    omega
  have hpos := List.length_pos_iff.2 hne
  obtain ⟨h8, h400⟩ := (few_iff rs).1 hfw
  have hok : okTo rs := fun r hr => by have := h400 r hr; omega
  have hfl := frms_len_le rs h400
  rw [hfw] at hfew
  have hj := join_fn A rs.length c rs rfl (by omega)
  rw [joinR_ok hok] at hj
  dsimp only at hj
  obtain ⟨r, hk⟩ : ∃ r, rs[pickN wh rs.length]? = some r := by
    have := pick_lt (i := wh) (n := rs.length) (by omega)
    exact ⟨_, List.getElem?_eq_getElem (by omega)⟩
  have hp := pick_fn wh rs.length (by omega)
  generalize pickN wh rs.length = k at hk hp
  have hr4 := h400 r (List.mem_of_getElem? hk)
  repeat (first | refine lx_not rfl rfl rfl rfl ?_ | refine lx_notu rfl rfl rfl rfl rfl ?_ | ((first | (apply lx_gt; exact rfl; exact rfl; exact rfl) | (apply lx_u; exact rfl) | (apply lx_g; exact rfl; exact rfl)); first | (apply isy_bin_eql; exact yl_false (yl_op (E := EV) rfl) (fun _ => h0)) | fail) | (refine isG ?_; refine gT rfl rfl rfl ?_) | (refine isU ?_; refine gU rfl ?_) | (refine isG ?_; refine gG rfl rfl ?_) | (refine isx_call ?_; refine lx_gcallt (hfew) ((fun w hm => rows_in (hm.get (k := 0) rfl) (in_nil hm) rfl)) rfl rfl rfl rfl rfl rfl rfl ?_) | (refine isx_box ?_; refine gB rfl rfl rfl rfl rfl rfl ?_; intro b_) | (refine isx_alloc ?_; refine gA rfl rfl rfl rfl rfl rfl rfl ?_; intro b_) | (refine isx_store ?_; refine gS 0 rfl rfl rfl rfl rfl rfl rfl rfl rfl rfl ?_) | (refine isx_store ?_; refine gS 1 rfl rfl rfl rfl rfl rfl rfl rfl rfl rfl ?_) | (refine isx_store ?_; refine gS 2 rfl rfl rfl rfl rfl rfl rfl rfl rfl rfl ?_) | (refine isx_store ?_; refine gS 3 rfl rfl rfl rfl rfl rfl rfl rfl rfl rfl ?_) | (refine isx_row ?_; refine lx_row (E := EV) rfl rfl rfl rfl rfl rfl rfl rfl rfl rfl rfl rfl rfl ?_; intro b_) | refine lx_nil ?_ | with_reducible refine tq_n ?_ | with_reducible refine tq_r ?_ | with_reducible refine tq_e ?_ | with_reducible refine bk_n ?_ | with_reducible refine bk_r ?_ | (with_reducible refine bk_e ?_ ?_; exact rfl) | (with_reducible refine bk_x ?_ ?_; exact rfl) | refine cx_seq ?_ | refine cx_region ?_ | refine cx_block ?_ | refine cx_ret ?_ | refine cx_skip ?_ | refine cx_exit ?_ | fail)
  refine cx_cond rfl (fun h => absurd h (by decide)) (fun _ => ?_)
  repeat (first | refine lx_not rfl rfl rfl rfl ?_ | refine lx_notu rfl rfl rfl rfl rfl ?_ | ((first | (apply lx_gt; exact rfl; exact rfl; exact rfl) | (apply lx_u; exact rfl) | (apply lx_g; exact rfl; exact rfl)); first | (apply isy_bin_neq; exact yl_false (yl_op (E := EV) rfl) (fun _ => rfl)) | fail) | (refine isG ?_; refine gT rfl rfl rfl ?_) | (refine isU ?_; refine gU rfl ?_) | (refine isG ?_; refine gG rfl rfl ?_) | (refine isx_call ?_; (refine isx_call ?_; refine lx_call0 (hj) ((fun w hm => rows_in (hm.get (k := 0) rfl) (in_nil hm) rfl)) rfl rfl rfl rfl rfl rfl rfl rfl ?_; rintro v_ Lo_ ⟨Ab, cb', rfl, rfl⟩)) | (refine isx_box ?_; refine gB rfl rfl rfl rfl rfl rfl ?_; intro b_) | (refine isx_alloc ?_; refine gA rfl rfl rfl rfl rfl rfl rfl ?_; intro b_) | (refine isx_store ?_; refine gS 0 rfl rfl rfl rfl rfl rfl rfl rfl rfl rfl ?_) | (refine isx_store ?_; refine gS 1 rfl rfl rfl rfl rfl rfl rfl rfl rfl rfl ?_) | (refine isx_store ?_; refine gS 2 rfl rfl rfl rfl rfl rfl rfl rfl rfl rfl ?_) | (refine isx_store ?_; refine gS 3 rfl rfl rfl rfl rfl rfl rfl rfl rfl rfl ?_) | (refine isx_row ?_; refine lx_row (E := EV) rfl rfl rfl rfl rfl rfl rfl rfl rfl rfl rfl rfl rfl ?_; intro b_) | refine lx_nil ?_ | with_reducible refine tq_n ?_ | with_reducible refine tq_r ?_ | with_reducible refine tq_e ?_ | with_reducible refine bk_n ?_ | with_reducible refine bk_r ?_ | (with_reducible refine bk_e ?_ ?_; exact rfl) | (with_reducible refine bk_x ?_ ?_; exact rfl) | refine cx_seq ?_ | refine cx_region ?_ | refine cx_block ?_ | refine cx_ret ?_ | refine cx_skip ?_ | refine cx_exit ?_ | fail)
  refine cx_cond rfl (fun h => absurd h (by decide)) (fun _ => ?_)
  refine cx_fact (fun w hm => own_cap 0 hm rfl) fun hcb => ?_
  refine cx_weakL (Gives.ownro 0 rfl) ?_
  repeat (first | refine lx_not rfl rfl rfl rfl ?_ | refine lx_notu rfl rfl rfl rfl rfl ?_ | (refine isG ?_; refine gT rfl rfl rfl ?_) | (refine isU ?_; refine gU rfl ?_) | (refine isG ?_; refine gG rfl rfl ?_) | (refine isx_call ?_; refine lx_gcallt (hp) (fun _ hm => in_nil hm) rfl rfl rfl rfl rfl rfl rfl ?_) | (refine isx_box ?_; refine gB rfl rfl rfl rfl rfl rfl ?_; intro b_) | (refine isx_alloc ?_; refine gA rfl rfl rfl rfl rfl rfl rfl ?_; intro b_) | (refine isx_store ?_; refine gS 0 rfl rfl rfl rfl rfl rfl rfl rfl rfl rfl ?_) | (refine isx_store ?_; refine gS 1 rfl rfl rfl rfl rfl rfl rfl rfl rfl rfl ?_) | (refine isx_store ?_; refine gS 2 rfl rfl rfl rfl rfl rfl rfl rfl rfl rfl ?_) | (refine isx_store ?_; refine gS 3 rfl rfl rfl rfl rfl rfl rfl rfl rfl rfl ?_) | (refine isx_row ?_; refine lx_row (E := EV) rfl rfl rfl rfl rfl rfl rfl rfl rfl rfl rfl rfl rfl ?_; intro b_) | refine lx_nil ?_ | with_reducible refine tq_n ?_ | with_reducible refine tq_r ?_ | with_reducible refine tq_e ?_ | with_reducible refine bk_n ?_ | with_reducible refine bk_r ?_ | (with_reducible refine bk_e ?_ ?_; exact rfl) | (with_reducible refine bk_x ?_ ?_; exact rfl) | refine cx_seq ?_ | refine cx_region ?_ | refine cx_block ?_ | refine cx_ret ?_ | refine cx_skip ?_ | refine cx_exit ?_ | fail)
  have hplace := frms_place hk
  refine cx_loop (α := { i : Nat // i ≤ k }) (fun x => [(0, none, .slice A rs.length c), (2, none, .int .i64 bt), (7, none, .slice Ab (frms rs).length cb'), (9, none, .int .i64 k), (10, none, .int .i64 (frms (rs.take x.1)).length), (11, none, .int .i64 x.1)])
    (fun _ => [.ro Ab (frms rs).length 1 (bvs (frms rs)), .rows A rs.length rs]) (fun x => k - x.1) ⟨0, Nat.zero_le _⟩ ⟨rfl, rfl, rfl, rfl, slot_int (by rw [List.take_zero]; unfold frms; rfl), rfl, trivial⟩ (Gives.refl _) ?_
  rintro ⟨i, hi⟩
  dsimp only
  have hkl := (List.getElem?_eq_some_iff.1 hk).1
  repeat (first | (refine isU ?_; refine gU rfl ?_) | (refine isG ?_; refine gG rfl rfl ?_) | (refine isx_box ?_; refine gB rfl rfl rfl rfl rfl rfl ?_; intro b_) | (refine isx_alloc ?_; refine gA rfl rfl rfl rfl rfl rfl rfl ?_; intro b_) | (refine isx_store ?_; refine gS 0 rfl rfl rfl rfl rfl rfl rfl rfl rfl rfl ?_) | (refine isx_store ?_; refine gS 1 rfl rfl rfl rfl rfl rfl rfl rfl rfl rfl ?_) | (refine isx_store ?_; refine gS 2 rfl rfl rfl rfl rfl rfl rfl rfl rfl rfl ?_) | (refine isx_store ?_; refine gS 3 rfl rfl rfl rfl rfl rfl rfl rfl rfl rfl ?_) | (refine isx_row ?_; refine lx_row (E := EV) rfl rfl rfl rfl rfl rfl rfl rfl rfl rfl rfl rfl rfl ?_; intro b_) | refine lx_nil ?_ | with_reducible refine tq_n ?_ | with_reducible refine tq_r ?_ | with_reducible refine tq_e ?_ | with_reducible refine bk_n ?_ | with_reducible refine bk_r ?_ | (with_reducible refine bk_e ?_ ?_; exact rfl) | (with_reducible refine bk_x ?_ ?_; exact rfl) | refine cx_seq ?_ | refine cx_region ?_ | refine cx_block ?_ | refine cx_ret ?_ | refine cx_skip ?_ | refine cx_exit ?_ | fail)
  refine cx_cond rfl (fun h => ?_) (fun h => ?_)
  · have hlt : i < k := by simp at h; omega
    clear h
    obtain ⟨y, hy⟩ : ∃ y, rs[i]? = some y := ⟨_, List.getElem?_eq_getElem (by omega)⟩
    have hy0 := rwv_get hy
    have hys := frms_place hy
    have hst := congrArg List.length (frms_take hy)
    rw [List.length_append, frm_len] at hst
    refine cx_fact (fun w hm => rows_ok 1 rfl hy hm) fun hyk => ?_
    refine cx_weakL (Gives.rows 1 rfl) ?_
    repeat (first | ((first | (apply lx_u; exact rfl) | (apply lx_g; exact rfl; exact rfl)); first | (apply isy_indexAddr; exact q_ix 0 rfl rfl rfl rfl rfl) | (apply isy_load; exact q_li 0 rfl rfl rfl rfl hy0) | (apply isy_bin_add; exact yl_eq (q_add rfl rfl) (fun _ => congrArg (Value.int .i64) ((show ((frms (rs.take i)).length : Int) + (y.n : Int) = (((frms (rs.take i)).length + y.n : Nat) : Int) from rfl)))) | (apply isy_bin_add; exact yl_eq (q_add rfl rfl) (fun _ => congrArg (Value.int .i64) ((show (((frms (rs.take i)).length + y.n : Nat) : Int) + 8 = ((frms (rs.take (i + 1))).length : Int) by omega)))) | fail) | (refine isU ?_; refine gU rfl ?_) | (refine isG ?_; refine gG rfl rfl ?_) | (refine isx_box ?_; refine gB rfl rfl rfl rfl rfl rfl ?_; intro b_) | (refine isx_alloc ?_; refine gA rfl rfl rfl rfl rfl rfl rfl ?_; intro b_) | (refine isx_store ?_; refine gS 0 rfl rfl rfl rfl rfl rfl rfl rfl rfl rfl ?_) | (refine isx_store ?_; refine gS 1 rfl rfl rfl rfl rfl rfl rfl rfl rfl rfl ?_) | (refine isx_store ?_; refine gS 2 rfl rfl rfl rfl rfl rfl rfl rfl rfl rfl ?_) | (refine isx_store ?_; refine gS 3 rfl rfl rfl rfl rfl rfl rfl rfl rfl rfl ?_) | (refine isx_row ?_; refine lx_row (E := EV) rfl rfl rfl rfl rfl rfl rfl rfl rfl rfl rfl rfl rfl ?_; intro b_) | refine lx_nil ?_ | with_reducible refine tq_n ?_ | with_reducible refine tq_r ?_ | with_reducible refine tq_e ?_ | with_reducible refine bk_n ?_ | with_reducible refine bk_r ?_ | (with_reducible refine bk_e ?_ ?_; exact rfl) | (with_reducible refine bk_x ?_ ?_; exact rfl) | refine cx_seq ?_ | refine cx_region ?_ | refine cx_block ?_ | refine cx_ret ?_ | refine cx_skip ?_ | refine cx_exit ?_ | fail)
    exact ⟨⟨i + 1, by omega⟩, ⟨rfl, rfl, rfl, rfl, rfl, slot_int (by dsimp only; omega), trivial⟩, Gives.pick [1, 2] (by decide) rfl, by dsimp only; omega⟩
  obtain rfl : i = k := by simp at h; omega
  clear h hi
  have hr0 := rwv_get hk
  refine cx_fact (fun w hm => rows_ok 1 rfl hk hm) fun hrk => ?_
  refine cx_weakL (Gives.rows 1 rfl) ?_
  have hq := pick_lt (i := bt) (n := ((8 * (r.n + 4) : Nat) : Int)) (by omega)
  have hpq := pick_fn bt ((8 * (r.n + 4) : Nat) : Int) (by omega)
  have hgood := all_good hok
  generalize pickN bt ((8 * (r.n + 4) : Nat) : Int) = q at hq hpq
  have hodd := all_odd hok hk (q := q) (by omega)
  generalize hat : (frms (rs.take i)).length = at' at *
  have hq8 := quo8 (32 + q) (by omega)
  have hr8 : ((32 + q : Nat) : Int).tmod 8 = (((8 * at' + (32 + q)) % 8 : Nat) : Int) := by
    rw [Int.tmod_eq_emod_of_nonneg (by omega)]
    omega
  have hd8 : at' + (32 + q) / 8 = (8 * at' + (32 + q)) / 8 := by omega
  have hdl : (8 * at' + (32 + q)) / 8 < (frms rs).length := by omega
  repeat (first | ((first | (apply lx_u; exact rfl) | (apply lx_g; exact rfl; exact rfl)); first | (apply isy_indexAddr; exact q_ix 0 rfl rfl rfl rfl rfl) | (apply isy_load; exact q_li 0 rfl rfl rfl rfl hr0) | (apply isy_bin_add; exact yl_eq (q_add rfl rfl) (fun _ => congrArg (Value.int .i64) ((show ((r.n : Nat) : Int) + 4 = ((r.n + 4 : Nat) : Int) from rfl)))) | (apply isy_bin_mul; exact yl_eq (q_mul rfl rfl) (fun _ => congrArg (Value.int .i64) ((show (8 : Int) * ((r.n + 4 : Nat) : Int) = ((8 * (r.n + 4) : Nat) : Int) by omega)))) | (apply isy_bin_add; exact yl_eq (q_add rfl rfl) (fun _ => congrArg (Value.int .i64) ((show (32 : Int) + (q : Int) = ((32 + q : Nat) : Int) by omega)))) | (apply isy_bin_quo; exact yl_eq (q_quo rfl rfl) (fun _ => congrArg (Value.int .i64) hq8)) | (apply isy_bin_add; exact yl_eq (q_add rfl rfl) (fun _ => congrArg (Value.int .i64) ((show (at' : Int) + (((32 + q) / 8 : Nat) : Int) = (((8 * at' + (32 + q)) / 8 : Nat) : Int) by omega)))) | fail) | (refine isU ?_; refine gU rfl ?_) | (refine isG ?_; refine gG rfl rfl ?_) | (refine isx_call ?_; refine k_gcall (hpq) (fun _ hm => in_nil hm) rfl rfl rfl rfl rfl rfl ?_) | (refine isx_box ?_; refine gB rfl rfl rfl rfl rfl rfl ?_; intro b_) | (refine isx_alloc ?_; refine gA rfl rfl rfl rfl rfl rfl rfl ?_; intro b_) | (refine isx_store ?_; refine gS 0 rfl rfl rfl rfl rfl rfl rfl rfl rfl rfl ?_) | (refine isx_store ?_; refine gS 1 rfl rfl rfl rfl rfl rfl rfl rfl rfl rfl ?_) | (refine isx_store ?_; refine gS 2 rfl rfl rfl rfl rfl rfl rfl rfl rfl rfl ?_) | (refine isx_store ?_; refine gS 3 rfl rfl rfl rfl rfl rfl rfl rfl rfl rfl ?_) | (refine isx_row ?_; refine lx_row (E := EV) rfl rfl rfl rfl rfl rfl rfl rfl rfl rfl rfl rfl rfl ?_; intro b_) | refine lx_nil ?_ | with_reducible refine tq_n ?_ | with_reducible refine tq_r ?_ | with_reducible refine tq_e ?_ | with_reducible refine bk_n ?_ | with_reducible refine bk_r ?_ | (with_reducible refine bk_e ?_ ?_; exact rfl) | (with_reducible refine bk_x ?_ ?_; exact rfl) | refine cx_seq ?_ | refine cx_region ?_ | refine cx_block ?_ | refine cx_ret ?_ | refine cx_skip ?_ | refine cx_exit ?_ | fail)
  refine cx_cond rfl (fun h => ?_) (fun _ => ?_)
  · simp at h; omega
  have hg1 := all_known Ab (frms rs).length cb' (frms rs) (oks rs) (frms rs).length rs.length hgood (oks_len rs) rfl hcb (by omega)
  generalize hp8 : 8 * at' + (32 + q) = p at *
  generalize hm : (frms rs).length = m at *
  obtain ⟨y, hy⟩ : ∃ y, (frms rs)[p / 8]? = some y := ⟨_, List.getElem?_eq_getElem (by omega)⟩
  have hy0 : (bvs (frms rs))[mulI (p / 8) 1]? = some (bv y) := bvs_get hy
  have hset := flip_setL hy
  have hg2 := fun (A : Option Addr) c hc => all_known A m c (crc.flip (frms rs) p) ((oks rs).set i ([], 72)) m rs.length hodd (by rw [List.length_set, oks_len]) (by rw [flip_length, hm]) hc (by omega)
  repeat (first | (refine isU ?_; refine gU rfl ?_) | (refine isG ?_; refine gG rfl rfl ?_) | (refine isx_call ?_; (refine isx_call ?_; refine lx_call0 (hg1) ((fun w hm => in_ro (row_ro 1 rfl hm) (in_nil hm) rfl)) rfl rfl rfl rfl rfl rfl rfl rfl ?_; rintro v_ Lo_ ⟨Af, cf, fs, rfl, tf, fitf, rfl⟩)) | (refine isx_box ?_; refine gB rfl rfl rfl rfl rfl rfl ?_; intro b_) | (refine isx_alloc ?_; refine gA rfl rfl rfl rfl rfl rfl rfl ?_; intro b_) | (refine isx_store ?_; refine gS 0 rfl rfl rfl rfl rfl rfl rfl rfl rfl rfl ?_) | (refine isx_store ?_; refine gS 1 rfl rfl rfl rfl rfl rfl rfl rfl rfl rfl ?_) | (refine isx_store ?_; refine gS 2 rfl rfl rfl rfl rfl rfl rfl rfl rfl rfl ?_) | (refine isx_store ?_; refine gS 3 rfl rfl rfl rfl rfl rfl rfl rfl rfl rfl ?_) | (refine isx_row ?_; refine lx_row (E := EV) rfl rfl rfl rfl rfl rfl rfl rfl rfl rfl rfl rfl rfl ?_; intro b_) | refine lx_nil ?_ | with_reducible refine tq_n ?_ | with_reducible refine tq_r ?_ | with_reducible refine tq_e ?_ | with_reducible refine bk_n ?_ | with_reducible refine bk_r ?_ | (with_reducible refine bk_e ?_ ?_; exact rfl) | (with_reducible refine bk_x ?_ ?_; exact rfl) | refine cx_seq ?_ | refine cx_region ?_ | refine cx_block ?_ | refine cx_ret ?_ | refine cx_skip ?_ | refine cx_exit ?_ | fail)
  refine lx_weak (L' := [.own Af rs.length cf 44 2 (fcells fs), .ro A rs.length 1 (rwv rs), .ro Ab m 1 (bvs (frms rs)), .rows A rs.length rs] ++ bods fs) Gives.mid ?_
  refine lx_call0 (own_fn Ab m cb' (frms rs) (by omega)) (fun w hm => in_ro (row_ro 2 rfl hm) (in_nil hm) rfl) rfl rfl rfl rfl rfl rfl rfl rfl ?_
  rintro v_ Lo_ ⟨Ao, co, rfl, rfl⟩
  refine lx_fact (fun w hm => own_addr (k := 0) rfl (by omega) hm) fun ⟨g, hg⟩ => ?_
  subst hg
  refine lx_fact (fun w hm => own_cap 0 hm rfl) fun hco => ?_
  repeat (first | (refine isU ?_; refine gU rfl ?_) | (refine isG ?_; refine gG rfl rfl ?_) | (refine isx_box ?_; refine gB rfl rfl rfl rfl rfl rfl ?_; intro b_) | (refine isx_alloc ?_; refine gA rfl rfl rfl rfl rfl rfl rfl ?_; intro b_) | (refine isx_store ?_; refine gS 0 rfl rfl rfl rfl rfl rfl rfl rfl rfl rfl ?_) | (refine isx_store ?_; refine gS 1 rfl rfl rfl rfl rfl rfl rfl rfl rfl rfl ?_) | (refine isx_store ?_; refine gS 2 rfl rfl rfl rfl rfl rfl rfl rfl rfl rfl ?_) | (refine isx_store ?_; refine gS 3 rfl rfl rfl rfl rfl rfl rfl rfl rfl rfl ?_) | (refine isx_row ?_; refine lx_row (E := EV) rfl rfl rfl rfl rfl rfl rfl rfl rfl rfl rfl rfl rfl ?_; intro b_) | refine lx_nil ?_ | with_reducible refine tq_n ?_ | with_reducible refine tq_r ?_ | with_reducible refine tq_e ?_ | with_reducible refine bk_n ?_ | with_reducible refine bk_r ?_ | (with_reducible refine bk_e ?_ ?_; exact rfl) | (with_reducible refine bk_x ?_ ?_; exact rfl) | refine cx_seq ?_ | refine cx_region ?_ | refine cx_block ?_ | refine cx_ret ?_ | refine cx_skip ?_ | refine cx_exit ?_ | fail)
  refine cx_draw [11, 17] _ rfl (by kernel_rfl) (Gives.uncons _ _) ?_
  repeat (first | ((first | (apply lx_u; exact rfl) | (apply lx_g; exact rfl; exact rfl)); first | (apply isy_bin_quo; exact yl_eq (yl_quo rfl rfl (by first | exact fun _ => rfl | exact fun h => h | exact fun h => (Bool.and_eq_true_iff.1 h).1) (by first | exact fun _ => rfl | exact fun h => h | exact fun h => (Bool.and_eq_true_iff.1 h).1) (fun _ => by decide)) (fun _ => congrArg (Value.int .i64) hq8)) | (apply isy_bin_rem; exact yl_eq (yl_rem rfl rfl (by first | exact fun _ => rfl | exact fun h => h | exact fun h => (Bool.and_eq_true_iff.1 h).1) (by first | exact fun _ => rfl | exact fun h => h | exact fun h => (Bool.and_eq_true_iff.1 h).1) (fun _ => by decide)) (fun _ => congrArg (Value.int .i64) hr8)) | (apply isy_bin_add; exact yl_eq (q_add rfl rfl) (fun _ => congrArg (Value.int .i64) ((show (at' : Int) + (((32 + q) / 8 : Nat) : Int) = ((p / 8 : Nat) : Int) by omega)))) | (apply isy_indexAddr; exact q_xs rfl rfl rfl rfl) | (apply isy_bin_shl; exact q_bshl uk8 1#8 (p % 8) rfl rfl rfl rfl) | (apply isy_bin_xor; exact q_xor uk8 _ _ rfl rfl rfl rfl) | fail) | (refine isU ?_; refine gU rfl ?_) | (refine isG ?_; refine gG rfl rfl ?_) | (refine isx_load ?_; refine lx_val rfl rfl rfl rfl rfl (yl_loadI (E := EV) 0 rfl rfl rfl (Shows.own ..) rfl (fun _ => hy0) (by first | exact fun _ => rfl | exact fun h => h | exact fun h => (Bool.and_eq_true_iff.1 h).1)) ?_) | (refine isx_store ?_; refine lx_storeI (E := EV) 0 rfl rfl rfl rfl rfl rfl rfl rfl rfl (by show p / 8 + 1 ≤ (bvs (frms rs)).length; rw [bvs_len]; omega) rfl (fun _ => Gives.uncons _ _) ?_) | (refine isx_box ?_; refine gB rfl rfl rfl rfl rfl rfl ?_; intro b_) | (refine isx_alloc ?_; refine gA rfl rfl rfl rfl rfl rfl rfl ?_; intro b_) | (refine isx_store ?_; refine gS 0 rfl rfl rfl rfl rfl rfl rfl rfl rfl rfl ?_) | (refine isx_store ?_; refine gS 1 rfl rfl rfl rfl rfl rfl rfl rfl rfl rfl ?_) | (refine isx_store ?_; refine gS 2 rfl rfl rfl rfl rfl rfl rfl rfl rfl rfl ?_) | (refine isx_store ?_; refine gS 3 rfl rfl rfl rfl rfl rfl rfl rfl rfl rfl ?_) | (refine isx_row ?_; refine lx_row (E := EV) rfl rfl rfl rfl rfl rfl rfl rfl rfl rfl rfl rfl rfl ?_; intro b_) | refine lx_nil ?_ | with_reducible refine tq_n ?_ | with_reducible refine tq_r ?_ | with_reducible refine tq_e ?_ | with_reducible refine bk_n ?_ | with_reducible refine bk_r ?_ | (with_reducible refine bk_e ?_ ?_; exact rfl) | (with_reducible refine bk_x ?_ ?_; exact rfl) | refine cx_seq ?_ | refine cx_region ?_ | refine cx_block ?_ | refine cx_ret ?_ | refine cx_skip ?_ | refine cx_exit ?_ | fail)
  refine lx_weak (L' := [.own Af rs.length cf 44 2 (fcells fs), .ro (some ⟨g, 0, none⟩) m 1 (bvs (crc.flip (frms rs) p)), .ro A rs.length 1 (rwv rs), .ro Ab m 1 (bvs (frms rs)), .rows A rs.length rs] ++ bods fs) ?_ ?_
  · rw [← hset]
    refine Gives.trans (Gives.ownro 0 rfl) ?_
    exact Gives.pre [_, _, _, _, _] [1, 0, 2, 3, 4] (by decide) rfl rfl
  repeat (first | refine lx_not rfl rfl rfl rfl ?_ | refine lx_notu rfl rfl rfl rfl rfl ?_ | ((first | (apply lx_gt; exact rfl; exact rfl; exact rfl) | (apply lx_u; exact rfl) | (apply lx_g; exact rfl; exact rfl)); first | (apply isy_bin_neq; exact yl_false (yl_op (E := EV) rfl) (fun _ => bne_self_eq_false _)) | fail) | (refine isG ?_; refine gT rfl rfl rfl ?_) | (refine isU ?_; refine gU rfl ?_) | (refine isG ?_; refine gG rfl rfl ?_) | (refine isx_call ?_; (refine isx_call ?_; refine lx_call0 (hg2 _ co hco) ((fun w hm => in_ro (row_ro 1 rfl hm) (in_nil hm) rfl)) rfl rfl rfl rfl rfl rfl rfl rfl ?_; rintro v_ Lo_ ⟨Ah, ch, gs, rfl, tg, fitg, rfl⟩)) | (refine isx_box ?_; refine gB rfl rfl rfl rfl rfl rfl ?_; intro b_) | (refine isx_alloc ?_; refine gA rfl rfl rfl rfl rfl rfl rfl ?_; intro b_) | (refine isx_store ?_; refine gS 0 rfl rfl rfl rfl rfl rfl rfl rfl rfl rfl ?_) | (refine isx_store ?_; refine gS 1 rfl rfl rfl rfl rfl rfl rfl rfl rfl rfl ?_) | (refine isx_store ?_; refine gS 2 rfl rfl rfl rfl rfl rfl rfl rfl rfl rfl ?_) | (refine isx_store ?_; refine gS 3 rfl rfl rfl rfl rfl rfl rfl rfl rfl rfl ?_) | (refine isx_row ?_; refine lx_row (E := EV) rfl rfl rfl rfl rfl rfl rfl rfl rfl rfl rfl rfl rfl ?_; intro b_) | refine lx_nil ?_ | with_reducible refine tq_n ?_ | with_reducible refine tq_r ?_ | with_reducible refine tq_e ?_ | with_reducible refine bk_n ?_ | with_reducible refine bk_r ?_ | (with_reducible refine bk_e ?_ ?_; exact rfl) | (with_reducible refine bk_x ?_ ?_; exact rfl) | refine cx_seq ?_ | refine cx_region ?_ | refine cx_block ?_ | refine cx_ret ?_ | refine cx_skip ?_ | refine cx_exit ?_ | fail)
  refine cx_cond rfl (fun h => absurd h (by decide)) (fun _ => ?_)
  refine cx_weakL (L' := [Ck.fds Af rs.length fs, Ck.fds Ah rs.length gs, .rows A rs.length rs]) ?_ ?_
  · refine Gives.trans Gives.mid ?_
    refine Gives.trans (Gives.fdsOf ([Ck.own Af rs.length cf 44 2 (fcells fs), .ro (some ⟨g, 0, none⟩) m 1 (bvs (crc.flip (frms rs) p)), .ro A rs.length 1 (rwv rs), .ro Ab m 1 (bvs (frms rs)), .rows A rs.length rs] ++ bods fs)) ?_
    refine Gives.trans (Gives.pre [_, _, _, _, _, _] [1, 0, 5] (by decide) rfl rfl) ?_
    exact Gives.fdsOf [_, _]
  clear hset hy0 hy
  repeat (first | (refine isU ?_; refine gU rfl ?_) | (refine isG ?_; refine gG rfl rfl ?_) | (refine isx_box ?_; refine gB rfl rfl rfl rfl rfl rfl ?_; intro b_) | (refine isx_alloc ?_; refine gA rfl rfl rfl rfl rfl rfl rfl ?_; intro b_) | (refine isx_store ?_; refine gS 0 rfl rfl rfl rfl rfl rfl rfl rfl rfl rfl ?_) | (refine isx_store ?_; refine gS 1 rfl rfl rfl rfl rfl rfl rfl rfl rfl rfl ?_) | (refine isx_store ?_; refine gS 2 rfl rfl rfl rfl rfl rfl rfl rfl rfl rfl ?_) | (refine isx_store ?_; refine gS 3 rfl rfl rfl rfl rfl rfl rfl rfl rfl rfl ?_) | (refine isx_row ?_; refine lx_row (E := EV) rfl rfl rfl rfl rfl rfl rfl rfl rfl rfl rfl rfl rfl ?_; intro b_) | refine lx_nil ?_ | with_reducible refine tq_n ?_ | with_reducible refine tq_r ?_ | with_reducible refine tq_e ?_ | with_reducible refine bk_n ?_ | with_reducible refine bk_r ?_ | (with_reducible refine bk_e ?_ ?_; exact rfl) | (with_reducible refine bk_x ?_ ?_; exact rfl) | refine cx_seq ?_ | refine cx_region ?_ | refine cx_block ?_ | refine cx_ret ?_ | refine cx_skip ?_ | refine cx_exit ?_ | fail)
  refine cx_loop (α := { j : Nat // j ≤ rs.length }) (fun x => [(0, none, .slice A rs.length c), (9, none, .int .i64 i), (14, none, .slice Af rs.length cf), (17, none, .slice Ah rs.length ch), (19, none, .int .i64 x.1)])
    (fun _ => [Ck.fds Af rs.length fs, Ck.fds Ah rs.length gs, .rows A rs.length rs]) (fun x => rs.length - x.1) ⟨0, Nat.zero_le _⟩ ⟨rfl, rfl, rfl, rfl, rfl, trivial⟩ (Gives.refl _) ?_
  rintro ⟨j, hj⟩
  dsimp only
  have hfl2 : fs.length = rs.length := by rw [← tell_len, tf, oks_len]
  have hgl2 : gs.length = rs.length := by rw [← tell_len, tg, List.length_set, oks_len]
  repeat (first | (refine isU ?_; refine gU rfl ?_) | (refine isG ?_; refine gG rfl rfl ?_) | (refine isx_box ?_; refine gB rfl rfl rfl rfl rfl rfl ?_; intro b_) | (refine isx_alloc ?_; refine gA rfl rfl rfl rfl rfl rfl rfl ?_; intro b_) | (refine isx_store ?_; refine gS 0 rfl rfl rfl rfl rfl rfl rfl rfl rfl rfl ?_) | (refine isx_store ?_; refine gS 1 rfl rfl rfl rfl rfl rfl rfl rfl rfl rfl ?_) | (refine isx_store ?_; refine gS 2 rfl rfl rfl rfl rfl rfl rfl rfl rfl rfl ?_) | (refine isx_store ?_; refine gS 3 rfl rfl rfl rfl rfl rfl rfl rfl rfl rfl ?_) | (refine isx_row ?_; refine lx_row (E := EV) rfl rfl rfl rfl rfl rfl rfl rfl rfl rfl rfl rfl rfl ?_; intro b_) | refine lx_nil ?_ | with_reducible refine tq_n ?_ | with_reducible refine tq_r ?_ | with_reducible refine tq_e ?_ | with_reducible refine bk_n ?_ | with_reducible refine bk_r ?_ | (with_reducible refine bk_e ?_ ?_; exact rfl) | (with_reducible refine bk_x ?_ ?_; exact rfl) | refine cx_seq ?_ | refine cx_region ?_ | refine cx_block ?_ | refine cx_ret ?_ | refine cx_skip ?_ | refine cx_exit ?_ | fail)
  refine cx_cond rfl (fun h => ?_) (fun h => ?_)
  · have hlt : j < rs.length := by simp at h; omega
    clear h
    obtain ⟨u, hu⟩ : ∃ u, rs[j]? = some u := ⟨_, List.getElem?_eq_getElem hlt⟩
    obtain ⟨x, hx⟩ : ∃ x, fs[j]? = some x := ⟨_, List.getElem?_eq_getElem (by omega)⟩
    obtain ⟨z, hz⟩ : ∃ z, gs[j]? = some z := ⟨_, List.getElem?_eq_getElem (by omega)⟩
    have hxu : x.r.l = u.l ∧ x.e = 0 := by
      have h1 := tell_get hx
      rw [tf, oks_get hu] at h1
      simpa [eq_comm] using h1
    refine cx_fact (fun w hm => (⟨fds_ok 0 rfl hx hm, fds_ok 1 rfl hz hm, rows_ok 2 rfl hu hm⟩ : (_ ∧ _) ∧ (_ ∧ _) ∧ (_ ∧ _))) fun ⟨kx, kz, ku⟩ => ?_
    refine cx_weakL (((Gives.rowsAt 2 rfl hu).trans (Gives.rows 3 rfl)).trans ((Gives.fdsAt 3 rfl hz).trans ((Gives.fds 4 rfl).trans ((Gives.fdsAt 4 rfl hx).trans (Gives.fds 5 rfl))))) ?_
    have hx0 : (fcells fs)[mulI j 2 + 0]? = some (.slice x.r.A x.r.n x.r.c) := fcells_get hx 0 (by decide)
    have hx1 : (fcells fs)[mulI j 2 + 1]? = some (.int .i64 x.e) := fcells_get hx 1 (by decide)
    have hz0 : (fcells gs)[mulI j 2 + 0]? = some (.slice z.r.A z.r.n z.r.c) := fcells_get hz 0 (by decide)
    have hz1 : (fcells gs)[mulI j 2 + 1]? = some (.int .i64 z.e) := fcells_get hz 1 (by decide)
    have hu0 := rwv_get hu
    have hxe : (x.e != 0) = false := by rw [hxu.2]; rfl
    repeat (first | (refine isU ?_; refine gU rfl ?_) | (refine isG ?_; refine gG rfl rfl ?_) | (refine isx_box ?_; refine gB rfl rfl rfl rfl rfl rfl ?_; intro b_) | (refine isx_alloc ?_; refine gA rfl rfl rfl rfl rfl rfl rfl ?_; intro b_) | (refine isx_store ?_; refine gS 0 rfl rfl rfl rfl rfl rfl rfl rfl rfl rfl ?_) | (refine isx_store ?_; refine gS 1 rfl rfl rfl rfl rfl rfl rfl rfl rfl rfl ?_) | (refine isx_store ?_; refine gS 2 rfl rfl rfl rfl rfl rfl rfl rfl rfl rfl ?_) | (refine isx_store ?_; refine gS 3 rfl rfl rfl rfl rfl rfl rfl rfl rfl rfl ?_) | (refine isx_row ?_; refine lx_row (E := EV) rfl rfl rfl rfl rfl rfl rfl rfl rfl rfl rfl rfl rfl ?_; intro b_) | refine lx_nil ?_ | with_reducible refine tq_n ?_ | with_reducible refine tq_r ?_ | with_reducible refine tq_e ?_ | with_reducible refine bk_n ?_ | with_reducible refine bk_r ?_ | (with_reducible refine bk_e ?_ ?_; exact rfl) | (with_reducible refine bk_x ?_ ?_; exact rfl) | refine cx_seq ?_ | refine cx_region ?_ | refine cx_block ?_ | refine cx_ret ?_ | refine cx_skip ?_ | refine cx_exit ?_ | fail)
    refine cx_draw [16, 40] _ rfl (by kernel_rfl) (Gives.refl _) ?_
    by_cases hjk : j = i
    · have hne : ((j : Int) != (i : Int)) = false := by simp [hjk]
      repeat (first | refine lx_not rfl rfl rfl rfl ?_ | refine lx_notu rfl rfl rfl rfl rfl ?_ | ((first | (apply lx_gt; exact rfl; exact rfl; exact rfl) | (apply lx_u; exact rfl) | (apply lx_g; exact rfl; exact rfl)); first | (apply isy_indexAddr; exact q_ix 0 rfl rfl rfl rfl rfl) | (apply isy_fieldAddr; exact q_fi 0 rfl rfl rfl rfl rfl rfl) | (apply isy_load; exact q_li 0 rfl rfl rfl rfl hx1) | (apply isy_bin_neq; exact yl_false (yl_op (E := EV) rfl) (fun _ => hxe)) | (apply isy_load; exact q_li 0 rfl rfl rfl rfl hx0) | (apply isy_indexAddr; exact q_ix 4 rfl rfl rfl rfl rfl) | (apply isy_load; exact q_li 4 rfl rfl rfl rfl hu0) | (apply isy_bin_neq; exact yl_false (yl_op (E := EV) rfl) (fun _ => hne)) | fail) | (refine isG ?_; refine gT rfl rfl rfl ?_) | (refine isU ?_; refine gU rfl ?_) | (refine isG ?_; refine gG rfl rfl ?_) | (refine isx_call ?_; refine lx_gcallt (sameB_fn x.r.A u.A x.r.n x.r.c u.n u.c x.r.l u.l kx.1 ku.1 (by omega) (by omega) hxu.1) ((fun w hm => in_ro (row_ro 1 rfl hm) (in_ro (row_ro 5 rfl hm) (in_nil hm) rfl) rfl)) rfl rfl rfl rfl rfl rfl rfl ?_) | (refine isx_box ?_; refine gB rfl rfl rfl rfl rfl rfl ?_; intro b_) | (refine isx_alloc ?_; refine gA rfl rfl rfl rfl rfl rfl rfl ?_; intro b_) | (refine isx_store ?_; refine gS 0 rfl rfl rfl rfl rfl rfl rfl rfl rfl rfl ?_) | (refine isx_store ?_; refine gS 1 rfl rfl rfl rfl rfl rfl rfl rfl rfl rfl ?_) | (refine isx_store ?_; refine gS 2 rfl rfl rfl rfl rfl rfl rfl rfl rfl rfl ?_) | (refine isx_store ?_; refine gS 3 rfl rfl rfl rfl rfl rfl rfl rfl rfl rfl ?_) | (refine isx_row ?_; refine lx_row (E := EV) rfl rfl rfl rfl rfl rfl rfl rfl rfl rfl rfl rfl rfl ?_; intro b_) | refine lx_nil ?_ | with_reducible refine tq_n ?_ | with_reducible refine tq_r ?_ | with_reducible refine tq_e ?_ | with_reducible refine bk_n ?_ | with_reducible refine bk_r ?_ | (with_reducible refine bk_e ?_ ?_; exact rfl) | (with_reducible refine bk_x ?_ ?_; exact rfl) | refine cx_seq ?_ | refine cx_region ?_ | refine cx_block ?_ | refine cx_ret ?_ | refine cx_skip ?_ | refine cx_exit ?_ | fail)
      refine cx_cond rfl (fun h => absurd h (by decide)) (fun _ => ?_)
      repeat (first | (refine isU ?_; refine gU rfl ?_) | (refine isG ?_; refine gG rfl rfl ?_) | (refine isx_box ?_; refine gB rfl rfl rfl rfl rfl rfl ?_; intro b_) | (refine isx_alloc ?_; refine gA rfl rfl rfl rfl rfl rfl rfl ?_; intro b_) | (refine isx_store ?_; refine gS 0 rfl rfl rfl rfl rfl rfl rfl rfl rfl rfl ?_) | (refine isx_store ?_; refine gS 1 rfl rfl rfl rfl rfl rfl rfl rfl rfl rfl ?_) | (refine isx_store ?_; refine gS 2 rfl rfl rfl rfl rfl rfl rfl rfl rfl rfl ?_) | (refine isx_store ?_; refine gS 3 rfl rfl rfl rfl rfl rfl rfl rfl rfl rfl ?_) | (refine isx_row ?_; refine lx_row (E := EV) rfl rfl rfl rfl rfl rfl rfl rfl rfl rfl rfl rfl rfl ?_; intro b_) | refine lx_nil ?_ | with_reducible refine tq_n ?_ | with_reducible refine tq_r ?_ | with_reducible refine tq_e ?_ | with_reducible refine bk_n ?_ | with_reducible refine bk_r ?_ | (with_reducible refine bk_e ?_ ?_; exact rfl) | (with_reducible refine bk_x ?_ ?_; exact rfl) | refine cx_seq ?_ | refine cx_region ?_ | refine cx_block ?_ | refine cx_ret ?_ | refine cx_skip ?_ | refine cx_exit ?_ | fail)
      exact ⟨⟨j + 1, by omega⟩, ⟨rfl, rfl, rfl, rfl, slot_int (by dsimp only; omega), trivial⟩, Gives.pick [6, 7, 8] (by decide) rfl, by dsimp only; omega⟩
    have hne : ((j : Int) != (i : Int)) = true := by simp; omega
    have hzu : z.r.l = u.l ∧ z.e = 0 := by
      have h1 := tell_get hz
      rw [tg, odd_get hu hjk] at h1
      simpa [eq_comm] using h1
    have hze : (z.e != 0) = false := by rw [hzu.2]; rfl
    repeat (first | refine lx_not rfl rfl rfl rfl ?_ | refine lx_notu rfl rfl rfl rfl rfl ?_ | ((first | (apply lx_gt; exact rfl; exact rfl; exact rfl) | (apply lx_u; exact rfl) | (apply lx_g; exact rfl; exact rfl)); first | (apply isy_indexAddr; exact q_ix 0 rfl rfl rfl rfl rfl) | (apply isy_fieldAddr; exact q_fi 0 rfl rfl rfl rfl rfl rfl) | (apply isy_load; exact q_li 0 rfl rfl rfl rfl hx1) | (apply isy_bin_neq; exact yl_false (yl_op (E := EV) rfl) (fun _ => hxe)) | (apply isy_load; exact q_li 0 rfl rfl rfl rfl hx0) | (apply isy_indexAddr; exact q_ix 4 rfl rfl rfl rfl rfl) | (apply isy_load; exact q_li 4 rfl rfl rfl rfl hu0) | (apply isy_bin_neq; exact yl_true (yl_op (E := EV) rfl) (fun _ => hne)) | (apply isy_indexAddr; exact q_ix 2 rfl rfl rfl rfl rfl) | (apply isy_fieldAddr; exact q_fi 2 rfl rfl rfl rfl rfl rfl) | (apply isy_load; exact q_li 2 rfl rfl rfl rfl hz1) | (apply isy_bin_neq; exact yl_false (yl_op (E := EV) rfl) (fun _ => hze)) | (apply isy_load; exact q_li 2 rfl rfl rfl rfl hz0) | fail) | (refine isG ?_; refine gT rfl rfl rfl ?_) | (refine isU ?_; refine gU rfl ?_) | (refine isG ?_; refine gG rfl rfl ?_) | (refine isx_call ?_; refine lx_gcallt (sameB_fn x.r.A u.A x.r.n x.r.c u.n u.c x.r.l u.l kx.1 ku.1 (by omega) (by omega) hxu.1) ((fun w hm => in_ro (row_ro 1 rfl hm) (in_ro (row_ro 5 rfl hm) (in_nil hm) rfl) rfl)) rfl rfl rfl rfl rfl rfl rfl ?_) | (refine isx_call ?_; refine lx_gcallt (sameB_fn z.r.A u.A z.r.n z.r.c u.n u.c z.r.l u.l kz.1 ku.1 (by omega) (by omega) hzu.1) ((fun w hm => in_ro (row_ro 3 rfl hm) (in_ro (row_ro 5 rfl hm) (in_nil hm) rfl) rfl)) rfl rfl rfl rfl rfl rfl rfl ?_) | (refine isx_box ?_; refine gB rfl rfl rfl rfl rfl rfl ?_; intro b_) | (refine isx_alloc ?_; refine gA rfl rfl rfl rfl rfl rfl rfl ?_; intro b_) | (refine isx_store ?_; refine gS 0 rfl rfl rfl rfl rfl rfl rfl rfl rfl rfl ?_) | (refine isx_store ?_; refine gS 1 rfl rfl rfl rfl rfl rfl rfl rfl rfl rfl ?_) | (refine isx_store ?_; refine gS 2 rfl rfl rfl rfl rfl rfl rfl rfl rfl rfl ?_) | (refine isx_store ?_; refine gS 3 rfl rfl rfl rfl rfl rfl rfl rfl rfl rfl ?_) | (refine isx_row ?_; refine lx_row (E := EV) rfl rfl rfl rfl rfl rfl rfl rfl rfl rfl rfl rfl rfl ?_; intro b_) | refine lx_nil ?_ | with_reducible refine tq_n ?_ | with_reducible refine tq_r ?_ | with_reducible refine tq_e ?_ | with_reducible refine bk_n ?_ | with_reducible refine bk_r ?_ | (with_reducible refine bk_e ?_ ?_; exact rfl) | (with_reducible refine bk_x ?_ ?_; exact rfl) | refine cx_seq ?_ | refine cx_region ?_ | refine cx_block ?_ | refine cx_ret ?_ | refine cx_skip ?_ | refine cx_exit ?_ | fail)
    refine cx_cond rfl (fun h => absurd h (by decide)) (fun _ => ?_)
    repeat (first | (refine isU ?_; refine gU rfl ?_) | (refine isG ?_; refine gG rfl rfl ?_) | (refine isx_box ?_; refine gB rfl rfl rfl rfl rfl rfl ?_; intro b_) | (refine isx_alloc ?_; refine gA rfl rfl rfl rfl rfl rfl rfl ?_; intro b_) | (refine isx_store ?_; refine gS 0 rfl rfl rfl rfl rfl rfl rfl rfl rfl rfl ?_) | (refine isx_store ?_; refine gS 1 rfl rfl rfl rfl rfl rfl rfl rfl rfl rfl ?_) | (refine isx_store ?_; refine gS 2 rfl rfl rfl rfl rfl rfl rfl rfl rfl rfl ?_) | (refine isx_store ?_; refine gS 3 rfl rfl rfl rfl rfl rfl rfl rfl rfl rfl ?_) | (refine isx_row ?_; refine lx_row (E := EV) rfl rfl rfl rfl rfl rfl rfl rfl rfl rfl rfl rfl rfl ?_; intro b_) | refine lx_nil ?_ | with_reducible refine tq_n ?_ | with_reducible refine tq_r ?_ | with_reducible refine tq_e ?_ | with_reducible refine bk_n ?_ | with_reducible refine bk_r ?_ | (with_reducible refine bk_e ?_ ?_; exact rfl) | (with_reducible refine bk_x ?_ ?_; exact rfl) | refine cx_seq ?_ | refine cx_region ?_ | refine cx_block ?_ | refine cx_ret ?_ | refine cx_skip ?_ | refine cx_exit ?_ | fail)
    exact ⟨⟨j + 1, by omega⟩, ⟨rfl, rfl, rfl, rfl, slot_int (by dsimp only; omega), trivial⟩, Gives.pick [6, 7, 8] (by decide) rfl, by dsimp only; omega⟩
  obtain ⟨z, hz⟩ : ∃ z, gs[i]? = some z := ⟨_, List.getElem?_eq_getElem (by omega)⟩
  have hzu : z.r.l = [] ∧ z.e = 72 := by
    have h1 := tell_get hz
    rw [tg, List.getElem?_set_self (by rw [oks_len]; exact hkl)] at h1
    simpa [eq_comm] using h1
  refine cx_fact (fun w hm => fds_ok 1 rfl hz hm) fun kz => ?_
  refine cx_weakL (Gives.fds 1 rfl) ?_
  have hz0 : (fcells gs)[mulI i 2 + 0]? = some (.slice z.r.A z.r.n z.r.c) := fcells_get hz 0 (by decide)
  have hz1 : (fcells gs)[mulI i 2 + 1]? = some (.int .i64 z.e) := fcells_get hz 1 (by decide)
  have hze : (z.e == 72) = true := by rw [hzu.2]; rfl
  have hzn : (((z.r.n : Nat) : Int) == 0) = true := by
    have := kz.1
    rw [hzu.1] at this
    simp at this ⊢
    omega
  repeat (first | refine lx_not rfl rfl rfl rfl ?_ | refine lx_notu rfl rfl rfl rfl rfl ?_ | ((first | (apply lx_gt; exact rfl; exact rfl; exact rfl) | (apply lx_u; exact rfl) | (apply lx_g; exact rfl; exact rfl)); first | (apply isy_indexAddr; exact q_ix 0 rfl rfl rfl rfl rfl) | (apply isy_fieldAddr; exact q_fi 0 rfl rfl rfl rfl rfl rfl) | (apply isy_load; exact q_li 0 rfl rfl rfl rfl hz1) | (apply isy_bin_eql; exact yl_true (yl_op (E := EV) rfl) (fun _ => hze)) | (apply isy_load; exact q_li 0 rfl rfl rfl rfl hz0) | (apply isy_bin_eql; exact yl_true (yl_op (E := EV) rfl) (fun _ => hzn)) | fail) | (refine isG ?_; refine gT rfl rfl rfl ?_) | (refine isU ?_; refine gU rfl ?_) | (refine isG ?_; refine gG rfl rfl ?_) | (refine isx_call ?_; refine lx_gcallt (works_fn) (fun _ hm => in_nil hm) rfl rfl rfl rfl rfl rfl rfl ?_) | (refine isx_box ?_; refine gB rfl rfl rfl rfl rfl rfl ?_; intro b_) | (refine isx_alloc ?_; refine gA rfl rfl rfl rfl rfl rfl rfl ?_; intro b_) | (refine isx_store ?_; refine gS 0 rfl rfl rfl rfl rfl rfl rfl rfl rfl rfl ?_) | (refine isx_store ?_; refine gS 1 rfl rfl rfl rfl rfl rfl rfl rfl rfl rfl ?_) | (refine isx_store ?_; refine gS 2 rfl rfl rfl rfl rfl rfl rfl rfl rfl rfl ?_) | (refine isx_store ?_; refine gS 3 rfl rfl rfl rfl rfl rfl rfl rfl rfl rfl ?_) | (refine isx_row ?_; refine lx_row (E := EV) rfl rfl rfl rfl rfl rfl rfl rfl rfl rfl rfl rfl rfl ?_; intro b_) | refine lx_nil ?_ | with_reducible refine tq_n ?_ | with_reducible refine tq_r ?_ | with_reducible refine tq_e ?_ | with_reducible refine bk_n ?_ | with_reducible refine bk_r ?_ | (with_reducible refine bk_e ?_ ?_; exact rfl) | (with_reducible refine bk_x ?_ ?_; exact rfl) | refine cx_seq ?_ | refine cx_region ?_ | refine cx_block ?_ | refine cx_ret ?_ | refine cx_skip ?_ | refine cx_exit ?_ | fail)
  exact bq_ret (ret_tmp rfl rfl) [] (Gives.nil _) rfl ⟨rfl, rfl⟩
theorem spoilt_all (x0 : Sl (Sl B8)) (x1 x2 : Int) (W : World) (h0 : Sl.ok W 1 (fun r : Sl B8 => [.slice r.A r.n r.c]) (u8ok W) x0) (_ : (Lit.int .i64 x1).wf = true) (_ : (Lit.int .i64 x2).wf = true) :
    Calls Try.prog 5 #[.slice x0.A x0.n x0.c, .int .i64 x1, .int .i64 x2] W fun e W' => e = .returned (.bool true) ∧ Below W.heap.size W W' :=
  (spoilt_fn x0.A x0.n x0.c _ x1 x2 (by rw [List.length_map, h0.2.1]) (Nat.le_trans h0.2.2.1 h0.2.2.2.1)).yes W (rows_in (rows_of h0) (mem0 W) rfl)
end Go.Proofs.Ythmdiopbiiimeaa.fr
